/- Parts at the front and at the end of an element. -/
import Derived.Test.YtbeeblhmgpgkjaaWeak
set_option linter.unusedVariables false
set_option linter.unusedSimpArgs false
namespace Go.Proofs.Ytbeeblhmgpgkjaa
open Go Go.Aw Go.Cox

theorem Run.join {C : Ctx} {i j : Item} {k : List Item} {σ : St} (σ' : St) (h1 : Run C k σ') (h2 : Run C k σ' → Run C (i :: j :: k) σ) : Run C (i :: j :: k) σ := h2 h1

theorem firstIn_at (v : List Int) : ∀ (s : List Int) (i : Nat), i < s.length → (∀ j, j < i → 0 ≤ v.getD (s.getD j 0).toNat 0) → v.getD (s.getD i 0).toNat 0 < 0 → firstIn v s = s.getD i 0
  | [], i, h, _, _ => by simp at h
  | x :: s, 0, _, _, h => by
    simp only [List.getD_cons_zero] at h
    simp only [firstIn, List.getD_cons_zero]
    rw [if_pos h]
  | x :: s, i + 1, hi, hp, h => by
    have h0 := hp 0 (by omega)
    simp only [List.getD_cons_zero] at h0
    simp only [List.getD_cons_succ] at h ⊢
    simp only [firstIn]
    rw [if_neg (by omega)]
    exact firstIn_at v s i (by simpa using hi) (fun j hj => by have := hp (j + 1) (by omega); simpa only [List.getD_cons_succ] using this) h
theorem firstIn_none (v : List Int) : ∀ (s : List Int), (∀ j, j < s.length → 0 ≤ v.getD (s.getD j 0).toNat 0) → firstIn v s = -1
  | [], _ => rfl
  | x :: s, hp => by
    have h0 := hp 0 (by simp)
    simp only [List.getD_cons_zero] at h0
    simp only [firstIn]
    rw [if_neg (by omega)]
    exact firstIn_none v s (fun j hj => by have := hp (j + 1) (by simpa using hj); simpa only [List.getD_cons_succ] using this)

theorem lp_stop {c : List (List Int)} {s v : List Int} (h : firstIn v s < 0) (f : Nat) : lpL c s f v = ([], v) := by
  cases f with
  | zero => rfl
  | succ f => simp only [lpL]; rw [if_pos h]
theorem lp_step {c : List (List Int)} {s v : List Int} (h : ¬ firstIn v s < 0) (f : Nat) : lpL c s (f + 1) v = (firstIn v s :: (lpL c s f (reflL c (firstIn v s) v)).1, (lpL c s f (reflL c (firstIn v s) v)).2) := by
  simp only [lpL]; rw [if_neg h]

/-- The letters that have been taken off, and what is left. -/
structure LP (c : List (List Int)) (s v0 : List Int) (L : Nat) (a v : List Int) : Prop where
  far : Far c (L - a.length) v
  le : a.length ≤ L
  let_ : letters c.length a
  eq : lpL c s 31 v0 = (a ++ (lpL c s (31 - a.length) v).1, (lpL c s (31 - a.length) v).2)
theorem LP.start {c : List (List Int)} {s v0 : List Int} {L : Nat} (h : Far c L v0) : LP c s v0 L [] v0 := ⟨h, Nat.zero_le _, letters_nil _, rfl⟩
theorem LP.stop {c : List (List Int)} {s v0 a v : List Int} {L : Nat} (h : LP c s v0 L a v) (k : firstIn v s < 0) : lpL c s 31 v0 = (a, v) := by
  rw [h.eq, lp_stop k]; simp
theorem LP.step {c : List (List Int)} (hc : CartanP c) {s v0 a v : List Int} {L : Nat} (hs : letters c.length s) (hL : L ≤ 31) (h : LP c s v0 L a v) (k : ¬ firstIn v s < 0) :
    LP c s v0 L (a ++ [firstIn v s]) (reflL c (firstIn v s) v) ∧ a.length < L ∧ (0 ≤ firstIn v s ∧ firstIn v s < c.length) := by
  rcases firstIn_spec v s hs with ⟨h1, _⟩ | ⟨h1, h2, _, h4⟩
  · omega
  · obtain ⟨M, m1, m2⟩ := h.far.down hc ⟨h1, h2⟩ h4
    have hle := h.le
    refine ⟨⟨?_, by simp; omega, letters_append.2 ⟨h.let_, letters_cons.2 ⟨⟨h1, h2⟩, letters_nil _⟩⟩, ?_⟩, by omega, h1, h2⟩
    · rw [show L - (a ++ [firstIn v s]).length = M by simp; omega]; exact m2
    · rw [h.eq, show 31 - a.length = (31 - (a ++ [firstIn v s]).length) + 1 by simp; omega, lp_step k]
      simp
theorem far_bd {c : List (List Int)} (hc : CartanP c) {M : Nat} {v : List Int} (h : Far c M v) (hM : M ≤ 31) : Bd 9223372036854775807 v := by
  obtain ⟨k1, k2, k3⟩ := nfL_far hc 31 M h hM
  rw [← k3]
  exact (image_bd hc k2 (by omega)).mono (by decide)

theorem c_impl_leftParts (c : List (List Int)) (s w : List Int) (hc : CartanP c) (hs : setP c.length s) (hw : letters c.length w) (hl : w.length ≤ 31) :
    FunA B 73 [.sl false (.row false) c, .sl false .int s, .sl false .int w] (fun rs o => rs = [.own 0 0, .own 1 0] ∧ o = [.arr .int (redL c (lpL c s 31 (imageL c w)).1) 0 true, .arr .int (nfL c 31 (lpL c s 31 (imageL c w)).2) 0 true]) := by
  obtain ⟨L, h1, h2, h3⟩ := Far.image hc hw
  have hsl := set_len hs
  have hn := hc.2.1
  have hset := set_letters hs
  refine FunA.walk B_ok (fn := Try.f73) (fun vs w => Try.call73 vs w) Try.func73 rfl (by rw [Try.ntmps73]; simp) (fun C hC hP hT hΓ hbt hfn hpin hfin => ?_); have hX := BX; rw [← hΓ, ← hbt] at hX; rw [Try.ntmps73]; simp only [AW1, simprocAttr, Int.toNat_natCast, beq_self_eq_true, hX]
  (repeat (first | refine Run.seq ?_ | refine Run.skip ?_ | refine Run.label ?_ | refine Run.block ?_ | refine Run.unblock ?_)); refine Run.regionW hC (fun K hK => ?_); simp only [AW1, simprocAttr, Int.toNat_natCast, beq_self_eq_true, hX]; (repeat (with_reducible refine And.intro ?_ ?_); focus (first | omega | (intros; simp_all; done) | (intro h; simp only [VB] at h; omega) | (intros; simp_all; omega))); refine hK _ ?_; clear hK K; (repeat (first | refine Run.seq ?_ | refine Run.skip ?_ | refine Run.label ?_ | refine Run.block ?_ | refine Run.unblock ?_))
  (repeat (first | refine Run.seq ?_ | refine Run.skip ?_ | refine Run.label ?_ | refine Run.block ?_ | refine Run.unblock ?_)); refine Run.regionW hC (fun K hK => ?_); simp only [AW1, simprocAttr, Int.toNat_natCast, beq_self_eq_true, hX]; (repeat (with_reducible refine And.intro ?_ ?_); focus (first | omega | (intros; simp_all; done) | (intro h; simp only [VB] at h; omega) | (intros; simp_all; omega)))
  refine FunA.callW hP hT (c_impl_image c w hc hw hl) (by simp only [AW1, simprocAttr, Int.toNat_natCast, beq_self_eq_true]) ?_
  rintro rs o ⟨rfl, rfl⟩
  (try simp only [AW1, simprocAttr, Int.toNat_natCast, beq_self_eq_true, hX]); (repeat (with_reducible refine And.intro ?_ ?_); focus (first | omega | (intros; simp_all; done) | (intro h; simp only [VB] at h; omega) | (intros; simp_all; omega)))
  (repeat (with_reducible refine And.intro ?_ ?_); focus (first | omega | (intros; simp_all; done) | (intro h; simp only [VB] at h; omega) | (intros; simp_all; omega))); refine hK _ ?_; clear hK K; (repeat (first | refine Run.seq ?_ | refine Run.skip ?_ | refine Run.label ?_ | refine Run.block ?_ | refine Run.unblock ?_))
  (repeat (first | refine Run.seq ?_ | refine Run.skip ?_ | refine Run.label ?_ | refine Run.block ?_ | refine Run.unblock ?_)); refine Run.regionW hC (fun K hK => ?_); simp only [AW1, simprocAttr, Int.toNat_natCast, beq_self_eq_true, hX]; (repeat (with_reducible refine And.intro ?_ ?_); focus (first | omega | (intros; simp_all; done) | (intro h; simp only [VB] at h; omega) | (intros; simp_all; omega))); refine hK _ ?_; clear hK K; (repeat (first | refine Run.seq ?_ | refine Run.skip ?_ | refine Run.label ?_ | refine Run.block ?_ | refine Run.unblock ?_))
  refine Run.loopI (X := List Int × List Int × Nat) (fun x => ⟨46, [(0, true, .v (.sl false (.row false) c)), (1, true, .v (.sl false .int s)), (6, true, .v .nils), (7, true, .v .nils), (8, true, .v (.own 0 0)), (9, true, .v (.own 1 x.2.2))], [.arr .int x.2.1 0 true, .arr .int x.1 x.2.2 true]⟩) (fun x => LP c s (imageL c w) L x.1 x.2.1) (fun x => L - x.1.length) ([], imageL c w, 0) (LP.start h3) ?_ ?_
  · exact Le.sub (by rfl) (by simp only [AW1, simprocAttr, Int.toNat_natCast, beq_self_eq_true, hX]; try simp)
  rintro ⟨a, v, g⟩ hLP ih
  simp only [] at hLP ⊢
  have hvl : v.length = c.length := hLP.far.1
  have hal := hLP.le
  (repeat (first | refine Run.seq ?_ | refine Run.skip ?_ | refine Run.label ?_ | refine Run.block ?_ | refine Run.unblock ?_)); refine Run.regionW hC (fun K hK => ?_); simp only [AW1, simprocAttr, Int.toNat_natCast, beq_self_eq_true, hX]; (repeat (with_reducible refine And.intro ?_ ?_); focus (first | omega | (intros; simp_all; done) | (intro h; simp only [VB] at h; omega) | (intros; simp_all; omega))); refine hK _ ?_; clear hK K; (repeat (first | refine Run.seq ?_ | refine Run.skip ?_ | refine Run.label ?_ | refine Run.block ?_ | refine Run.unblock ?_))
  (repeat (first | refine Run.seq ?_ | refine Run.skip ?_ | refine Run.label ?_ | refine Run.block ?_ | refine Run.unblock ?_)); refine Run.regionW hC (fun K hK => ?_); simp only [AW1, simprocAttr, Int.toNat_natCast, beq_self_eq_true, hX]; (repeat (with_reducible refine And.intro ?_ ?_); focus (first | omega | (intros; simp_all; done) | (intro h; simp only [VB] at h; omega) | (intros; simp_all; omega))); refine hK _ ?_; clear hK K; (repeat (first | refine Run.seq ?_ | refine Run.skip ?_ | refine Run.label ?_ | refine Run.block ?_ | refine Run.unblock ?_))
  refine Run.keep [0, 1, 6, 7, 8, 9, 10, 17, 18, 19] ?_; simp only [AK, Nat.reduceBEq]
  refine Run.join ⟨46, [(0, true, .v (.sl false (.row false) c)), (1, true, .v (.sl false .int s)), (6, true, .v .nils), (7, true, .v .nils), (8, true, .v (.own 0 0)), (9, true, .v (.own 1 g)), (10, true, .v (.int .i64 (firstIn v s)))], [.arr .int v 0 true, .arr .int a g true]⟩ ?_ (fun cont => ?_)
  · (repeat (first | refine Run.seq ?_ | refine Run.skip ?_ | refine Run.label ?_ | refine Run.block ?_ | refine Run.unblock ?_)); refine Run.regionW hC (fun K hK => ?_); simp only [AW1, simprocAttr, Int.toNat_natCast, beq_self_eq_true, hX]; (repeat (with_reducible refine And.intro ?_ ?_); focus (first | omega | (intros; simp_all; done) | (intro h; simp only [VB] at h; omega) | (intros; simp_all; omega))); refine hK _ ?_; clear hK K; (repeat (first | refine Run.seq ?_ | refine Run.skip ?_ | refine Run.label ?_ | refine Run.block ?_ | refine Run.unblock ?_))
    (repeat (first | refine Run.seq ?_ | refine Run.skip ?_ | refine Run.label ?_ | refine Run.block ?_ | refine Run.unblock ?_)); refine Run.condW (by simp only [AW1, simprocAttr, Int.toNat_natCast, beq_self_eq_true, hX]; rfl) (by simp only [AW1, simprocAttr, Int.toNat_natCast, beq_self_eq_true, hX]) ?_ ?_
    · intro h
      have h : firstIn v s < 0 := by simpa using h
      have hst := hLP.stop h
      (repeat (first | refine Run.seq ?_ | refine Run.skip ?_ | refine Run.label ?_ | refine Run.block ?_ | refine Run.unblock ?_)); refine Run.regionW hC (fun K hK => ?_); simp only [AW1, simprocAttr, Int.toNat_natCast, beq_self_eq_true, hX]; (repeat (with_reducible refine And.intro ?_ ?_); focus (first | omega | (intros; simp_all; done) | (intro h; simp only [VB] at h; omega) | (intros; simp_all; omega)))
      refine FunA.callW hP hT (c_impl_reduced c a hc hLP.let_ (by omega)) (by simp only [AW1, simprocAttr, Int.toNat_natCast, beq_self_eq_true]) ?_
      rintro rs o ⟨rfl, rfl⟩
      (try simp only [AW1, simprocAttr, Int.toNat_natCast, beq_self_eq_true, hX]); (repeat (with_reducible refine And.intro ?_ ?_); focus (first | omega | (intros; simp_all; done) | (intro h; simp only [VB] at h; omega) | (intros; simp_all; omega)))
      refine FunA.callW hP hT (c_impl_normal c v (L - a.length) hc hLP.far (by omega)) (by simp only [AW1, simprocAttr, Int.toNat_natCast, beq_self_eq_true]) ?_
      rintro rs o ⟨rfl, rfl⟩
      (try simp only [AW1, simprocAttr, Int.toNat_natCast, beq_self_eq_true, hX]); (repeat (with_reducible refine And.intro ?_ ?_); focus (first | omega | (intros; simp_all; done) | (intro h; simp only [VB] at h; omega) | (intros; simp_all; omega)))
      (repeat (with_reducible refine And.intro ?_ ?_); focus (first | omega | (intros; simp_all; done) | (intro h; simp only [VB] at h; omega) | (intros; simp_all; omega))); refine hK _ ?_; clear hK K; (repeat (first | refine Run.seq ?_ | refine Run.skip ?_ | refine Run.label ?_ | refine Run.block ?_ | refine Run.unblock ?_))
      refine Run.le (Le.re (obs' := [.arr .int (redL c a) 0 true, .arr .int (nfL c 31 v) 0 true]) hpin [2, 3] [(6, true, .own 0 0), (7, true, .own 1 0)] rfl (by simp [leOs, leO_arr, oAt]) (by refine ⟨⟨_, rfl, ?_⟩, ⟨_, rfl, ?_⟩, trivial⟩ <;> simp [leAV, oAt, genO])) ?_; simp only [frV_cons, frV_nil]
      refine Run.retW [6, 7] (by decide) (by rw [hfn]; rfl) (by simp only [AW1, simprocAttr, Int.toNat_natCast, beq_self_eq_true, hX]; rfl) (by simp only [AW1, simprocAttr, Int.toNat_natCast, beq_self_eq_true, hX]) (hfin _ _ rfl rfl ?_)
      rw [hst]
      exact ⟨rfl, rfl⟩
    · intro h
      have h : ¬ firstIn v s < 0 := by simpa using h
      obtain ⟨hLP2, hlt, hlet⟩ := hLP.step hc hset (by omega) h
      have hB' := far_bd hc hLP2.far (by omega)
      (repeat (first | refine Run.seq ?_ | refine Run.skip ?_ | refine Run.label ?_ | refine Run.block ?_ | refine Run.unblock ?_)); refine Run.regionW hC (fun K hK => ?_); simp only [AW1, simprocAttr, Int.toNat_natCast, beq_self_eq_true, hX]; (repeat (with_reducible refine And.intro ?_ ?_); focus (first | omega | (intros; simp_all; done) | (intro h; simp only [VB] at h; omega) | (intros; simp_all; omega))); refine hK _ ?_; clear hK K; (repeat (first | refine Run.seq ?_ | refine Run.skip ?_ | refine Run.label ?_ | refine Run.block ?_ | refine Run.unblock ?_))
      refine Run.le (Le.cut0 hpin [_] (fr' := [(0, true, .v (.sl false (.row false) c)), (1, true, .v (.sl false .int s)), (6, true, .v .nils), (7, true, .v .nils), (8, true, .v (.own 0 0)), (9, true, .v (.own 1 (g + 1))), (10, true, .v (.int .i64 (firstIn v s)))]) (obs' := [.arr .int v 0 true, .arr .int (a ++ [firstIn v s]) (g + 1) true]) rfl (by simp only [AW1, simprocAttr, Int.toNat_natCast, beq_self_eq_true]; try simp) rfl) ?_
      (repeat (first | refine Run.seq ?_ | refine Run.skip ?_ | refine Run.label ?_ | refine Run.block ?_ | refine Run.unblock ?_)); refine Run.regionW hC (fun K hK => ?_); simp only [AW1, simprocAttr, Int.toNat_natCast, beq_self_eq_true, hX]; (repeat (with_reducible refine And.intro ?_ ?_); focus (first | omega | (intros; simp_all; done) | (intro h; simp only [VB] at h; omega) | (intros; simp_all; omega)))
      refine FunM.call hP hT (c_impl_reflected c (firstIn v s) v hc hvl hlet hB') 0 0 (by simp only [AW1, simprocAttr, Int.toNat_natCast, beq_self_eq_true]; rfl) (by simp) rfl (by simp only [AW1, simprocAttr, Int.toNat_natCast, beq_self_eq_true]; try simp) ?_
      rintro rs o' obs' ⟨rfl, h4⟩
      obtain ⟨rfl, rfl⟩ := List.cons.inj h4
      (try simp only [AW1, simprocAttr, Int.toNat_natCast, beq_self_eq_true, hX]); (repeat (with_reducible refine And.intro ?_ ?_); focus (first | omega | (intros; simp_all; done) | (intro h; simp only [VB] at h; omega) | (intros; simp_all; omega)))
      (repeat (with_reducible refine And.intro ?_ ?_); focus (first | omega | (intros; simp_all; done) | (intro h; simp only [VB] at h; omega) | (intros; simp_all; omega))); refine hK _ ?_; clear hK K; (repeat (first | refine Run.seq ?_ | refine Run.skip ?_ | refine Run.label ?_ | refine Run.block ?_ | refine Run.unblock ?_))
      refine Run.le ?_ (ih (a ++ [firstIn v s], reflL c (firstIn v s) v, g + 1) hLP2 (by simp; omega))
      exact Le.sub (by rfl) (by simp only [AW1, simprocAttr, Int.toNat_natCast, beq_self_eq_true]; try simp)
  · refine Run.loopI (X := Nat) (fun i => ⟨46, [(0, true, .v (.sl false (.row false) c)), (1, true, .v (.sl false .int s)), (6, true, .v .nils), (7, true, .v .nils), (8, true, .v (.own 0 0)), (9, true, .v (.own 1 g)), (10, true, .v (.int .i64 (-1))), (17, true, .v (.sl false .int s)), (18, true, .v (.int .i64 s.length)), (19, true, .v (.int .i64 i))], [.arr .int v 0 true, .arr .int a g true]⟩) (fun i => i ≤ s.length ∧ ∀ j, j < i → 0 ≤ v.getD (s.getD j 0).toNat 0) (fun i => s.length - i) 0 ⟨Nat.zero_le _, by omega⟩ ?_ ?_
    · exact Le.sub (by rfl) (by simp only [AW1, simprocAttr, Int.toNat_natCast, beq_self_eq_true, hX]; try simp)
    rintro i ⟨hi, hp⟩ ihs
    (repeat (first | refine Run.seq ?_ | refine Run.skip ?_ | refine Run.label ?_ | refine Run.block ?_ | refine Run.unblock ?_)); refine Run.regionW hC (fun K hK => ?_); simp only [AW1, simprocAttr, Int.toNat_natCast, beq_self_eq_true, hX]; (repeat (with_reducible refine And.intro ?_ ?_); focus (first | omega | (intros; simp_all; done) | (intro h; simp only [VB] at h; omega) | (intros; simp_all; omega))); refine hK _ ?_; clear hK K; (repeat (first | refine Run.seq ?_ | refine Run.skip ?_ | refine Run.label ?_ | refine Run.block ?_ | refine Run.unblock ?_))
    (repeat (first | refine Run.seq ?_ | refine Run.skip ?_ | refine Run.label ?_ | refine Run.block ?_ | refine Run.unblock ?_)); refine Run.condW (by simp only [AW1, simprocAttr, Int.toNat_natCast, beq_self_eq_true, hX]; rfl) (by simp only [AW1, simprocAttr, Int.toNat_natCast, beq_self_eq_true, hX]) ?_ ?_
    · intro h
      have h : i < s.length := by simpa using h
      have hlet := letters_getD.1 hset i h
      (repeat (first | refine Run.seq ?_ | refine Run.skip ?_ | refine Run.label ?_ | refine Run.block ?_ | refine Run.unblock ?_)); refine Run.regionW hC (fun K hK => ?_); simp only [AW1, simprocAttr, Int.toNat_natCast, beq_self_eq_true, hX]; (repeat (with_reducible refine And.intro ?_ ?_); focus (first | omega | (intros; simp_all; done) | (intro h; simp only [VB] at h; omega) | (intros; simp_all; omega))); refine hK _ ?_; clear hK K; (repeat (first | refine Run.seq ?_ | refine Run.skip ?_ | refine Run.label ?_ | refine Run.block ?_ | refine Run.unblock ?_))
      (repeat (first | refine Run.seq ?_ | refine Run.skip ?_ | refine Run.label ?_ | refine Run.block ?_ | refine Run.unblock ?_)); refine Run.regionW hC (fun K hK => ?_); simp only [AW1, simprocAttr, Int.toNat_natCast, beq_self_eq_true, hX]; (repeat (with_reducible refine And.intro ?_ ?_); focus (first | omega | (intros; simp_all; done) | (intro h; simp only [VB] at h; omega) | (intros; simp_all; omega))); refine hK _ ?_; clear hK K; (repeat (first | refine Run.seq ?_ | refine Run.skip ?_ | refine Run.label ?_ | refine Run.block ?_ | refine Run.unblock ?_))
      (repeat (first | refine Run.seq ?_ | refine Run.skip ?_ | refine Run.label ?_ | refine Run.block ?_ | refine Run.unblock ?_)); refine Run.condW (by simp only [AW1, simprocAttr, Int.toNat_natCast, beq_self_eq_true, hX]; rfl) (by simp only [AW1, simprocAttr, Int.toNat_natCast, beq_self_eq_true, hX]) ?_ ?_
      · intro hx
        have hx : v.getD (s.getD i 0).toNat 0 < 0 := by simpa using hx
        (repeat (first | refine Run.seq ?_ | refine Run.skip ?_ | refine Run.label ?_ | refine Run.block ?_ | refine Run.unblock ?_)); refine Run.regionW hC (fun K hK => ?_); simp only [AW1, simprocAttr, Int.toNat_natCast, beq_self_eq_true, hX]; (repeat (with_reducible refine And.intro ?_ ?_); focus (first | omega | (intros; simp_all; done) | (intro h; simp only [VB] at h; omega) | (intros; simp_all; omega))); refine hK _ ?_; clear hK K; (repeat (first | refine Run.seq ?_ | refine Run.skip ?_ | refine Run.label ?_ | refine Run.block ?_ | refine Run.unblock ?_))
        refine Run.exit rfl ?_
        refine Run.le ?_ cont
        refine Le.sub (by rfl) ?_
        rw [firstIn_at v s i h hp hx]
        simp only [AW1, simprocAttr, Int.toNat_natCast, beq_self_eq_true]; try simp
      · intro hx
        have hx : ¬ v.getD (s.getD i 0).toNat 0 < 0 := by simpa using hx
        (repeat (first | refine Run.seq ?_ | refine Run.skip ?_ | refine Run.label ?_ | refine Run.block ?_ | refine Run.unblock ?_)); refine Run.regionW hC (fun K hK => ?_); simp (disch := omega) only [wrap_id, AW1, simprocAttr, Int.toNat_natCast, beq_self_eq_true, hX]; (repeat (with_reducible refine And.intro ?_ ?_); focus (first | omega | (intros; simp_all; done) | (intro h; simp only [VB] at h; omega) | (intros; simp_all; omega))); refine hK _ ?_; clear hK K; (repeat (first | refine Run.seq ?_ | refine Run.skip ?_ | refine Run.label ?_ | refine Run.block ?_ | refine Run.unblock ?_))
        refine Run.le ?_ (ihs (i + 1) ⟨h, fun j hj => ?_⟩ (by omega))
        · exact Le.sub (by simp only [AW1, simprocAttr, Int.toNat_natCast, beq_self_eq_true]) (by simp only [AW1, simprocAttr, Int.toNat_natCast, beq_self_eq_true, Option.some.injEq, Prod.mk.injEq, Sl.v.injEq, AV.int.injEq, AV.own.injEq, AV.bool.injEq]; try (repeat' apply And.intro); all_goals omega)
        · rcases Nat.lt_succ_iff_lt_or_eq.1 hj with h | rfl
          · exact hp j h
          · omega
    · intro h
      have h : i = s.length := by simp at h; omega
      subst h
      refine Run.exit rfl ?_
      refine Run.le ?_ cont
      refine Le.sub (by rfl) ?_
      rw [firstIn_none v s hp]
      simp only [AW1, simprocAttr, Int.toNat_natCast, beq_self_eq_true]; try simp

noncomputable def leftB (c : List (List Int)) (s w : List Int) : Bool := wordB c w && isSetB c s
noncomputable def leftX (c : List (List Int)) (s w : List Int) : List Int := if leftB c s w then redL c (lpL c s 31 (imageL c w)).1 else []
noncomputable def leftY (c : List (List Int)) (s w : List Int) : List Int := if leftB c s w then nfL c 31 (lpL c s 31 (imageL c w)).2 else []

/-- What the parts at the front come to. -/
theorem lp_word {c : List (List Int)} (hc : CartanP c) {s w : List Int} (hs : setP c.length s) (hw : letters c.length w) (hl : w.length ≤ 31) :
    letters c.length (lpL c s 31 (imageL c w)).1 ∧ (lpL c s 31 (imageL c w)).1.length + (nfL c 31 (lpL c s 31 (imageL c w)).2).length ≤ w.length ∧
    Red c (nfL c 31 (lpL c s 31 (imageL c w)).2) ∧ imageL c (nfL c 31 (lpL c s 31 (imageL c w)).2) = (lpL c s 31 (imageL c w)).2 := by
  obtain ⟨L, h1, h2, h3⟩ := Far.image hc hw
  obtain ⟨k1, k2, M, k3, k4, k5⟩ := lpL_far hc (set_letters hs) 31 L h3 (by omega)
  obtain ⟨m1, m2, m3⟩ := nfL_far hc 31 M k4 (by omega)
  exact ⟨k1, by omega, ⟨m2, by rw [m1, m3]; exact k4⟩, m3⟩
theorem leftX_le (c : List (List Int)) (s w : List Int) : (leftX c s w).length ≤ 15 := by
  unfold leftX
  split
  · rename_i h
    simp only [leftB, Bool.and_eq_true] at h
    obtain ⟨hc, h2, h3⟩ := wordB_iff.1 h.1
    have hs : setP c.length s := by have := h.2; unfold isSetB at this; simp only [Bool.and_eq_true] at this; exact setB_iff.1 this.2
    obtain ⟨k1, k2, _⟩ := lp_word hc hs h3 (by omega)
    have := (red_spec hc k1 (by omega)).2.1
    omega
  · simp
theorem leftY_le (c : List (List Int)) (s w : List Int) : (leftY c s w).length ≤ 15 := by
  unfold leftY
  split
  · rename_i h
    simp only [leftB, Bool.and_eq_true] at h
    obtain ⟨hc, h2, h3⟩ := wordB_iff.1 h.1
    have hs : setP c.length s := by have := h.2; unfold isSetB at this; simp only [Bool.and_eq_true] at this; exact setB_iff.1 this.2
    obtain ⟨k1, k2, _⟩ := lp_word hc hs h3 (by omega)
    omega
  · simp

theorem c_impl_LeftParts (c : List (List Int)) (s w : List Int) (hcl : c.length ≤ 1048576) :
    FunA B 40 [.sl false (.row false) c, .sl false .int s, .sl false .int w] (fun rs o => rs = [.own 0 0, .own 1 0, .bool (leftB c s w)] ∧ o = [.arr .int (leftX c s w) 0 true, .arr .int (leftY c s w) 0 true]) := by
  refine FunA.walk B_ok (fn := Try.f40) (fun vs w => Try.call40 vs w) Try.func40 rfl (by rw [Try.ntmps40]; simp) (fun C hC hP hT hΓ hbt hfn hpin hfin => ?_); have hX := BX; rw [← hΓ, ← hbt] at hX; rw [Try.ntmps40]; simp only [AW1, simprocAttr, Int.toNat_natCast, beq_self_eq_true, hX]
  (repeat (first | refine Run.seq ?_ | refine Run.skip ?_ | refine Run.label ?_ | refine Run.block ?_ | refine Run.unblock ?_)); refine Run.regionW hC (fun K hK => ?_); simp only [AW1, simprocAttr, Int.toNat_natCast, beq_self_eq_true, hX]; (repeat (with_reducible refine And.intro ?_ ?_); focus (first | omega | (intros; simp_all; done) | (intro h; simp only [VB] at h; omega) | (intros; simp_all; omega))); refine hK _ ?_; clear hK K; (repeat (first | refine Run.seq ?_ | refine Run.skip ?_ | refine Run.label ?_ | refine Run.block ?_ | refine Run.unblock ?_))
  (repeat (first | refine Run.seq ?_ | refine Run.skip ?_ | refine Run.label ?_ | refine Run.block ?_ | refine Run.unblock ?_)); refine Run.regionW hC (fun K hK => ?_); simp only [AW1, simprocAttr, Int.toNat_natCast, beq_self_eq_true, hX]; (repeat (with_reducible refine And.intro ?_ ?_); focus (first | omega | (intros; simp_all; done) | (intro h; simp only [VB] at h; omega) | (intros; simp_all; omega)))
  refine FunA.callW hP hT (c_impl_IsWord c w) (by simp only [AW1, simprocAttr, Int.toNat_natCast, beq_self_eq_true]) ?_
  rintro rs o ⟨rfl, rfl⟩
  (try simp only [AW1, simprocAttr, Int.toNat_natCast, beq_self_eq_true, hX]); (repeat (with_reducible refine And.intro ?_ ?_); focus (first | omega | (intros; simp_all; done) | (intro h; simp only [VB] at h; omega) | (intros; simp_all; omega)))
  refine .inl (FunA.callG hP hT (c_impl_IsSet c s hcl) (fun _ => rfl) (fun _ => by simp only [AW1, simprocAttr, Int.toNat_natCast, beq_self_eq_true]) ?_)
  (try simp only [AW1, simprocAttr, Int.toNat_natCast, beq_self_eq_true, hX]); (repeat (with_reducible refine And.intro ?_ ?_); focus (first | omega | (intros; simp_all; done) | (intro h; simp only [VB] at h; omega) | (intros; simp_all; omega)))
  (repeat (with_reducible refine And.intro ?_ ?_); focus (first | omega | (intros; simp_all; done) | (intro h; simp only [VB] at h; omega) | (intros; simp_all; omega))); refine hK _ ?_; clear hK K; (repeat (first | refine Run.seq ?_ | refine Run.skip ?_ | refine Run.label ?_ | refine Run.block ?_ | refine Run.unblock ?_))
  (repeat (first | refine Run.seq ?_ | refine Run.skip ?_ | refine Run.label ?_ | refine Run.block ?_ | refine Run.unblock ?_)); refine Run.condW (by simp only [AW1, simprocAttr, Int.toNat_natCast, beq_self_eq_true, hX]; rfl) (by simp only [AW1, simprocAttr, Int.toNat_natCast, beq_self_eq_true, hX]) ?_ ?_
  · intro h
    have h : leftB c s w = false := by
      revert h
      cases hw : wordB c w <;> cases hi : isSetB c s <;> simp [leftB, hw, hi]
    (repeat (first | refine Run.seq ?_ | refine Run.skip ?_ | refine Run.label ?_ | refine Run.block ?_ | refine Run.unblock ?_)); refine Run.regionW hC (fun K hK => ?_); simp only [AW1, simprocAttr, Int.toNat_natCast, beq_self_eq_true, hX]; (repeat (with_reducible refine And.intro ?_ ?_); focus (first | omega | (intros; simp_all; done) | (intro h; simp only [VB] at h; omega) | (intros; simp_all; omega))); refine hK _ ?_; clear hK K; (repeat (first | refine Run.seq ?_ | refine Run.skip ?_ | refine Run.label ?_ | refine Run.block ?_ | refine Run.unblock ?_))
    refine Run.retW [6, 7, 8] (by decide) (by rw [hfn]; rfl) (by simp only [AW1, simprocAttr, Int.toNat_natCast, beq_self_eq_true, hX]; rfl) (by simp only [AW1, simprocAttr, Int.toNat_natCast, beq_self_eq_true, hX]) (hfin _ _ rfl rfl ?_)
    simp [leftX, leftY, h]
  · intro h
    have hw : wordB c w = true := by revert h; cases hw : wordB c w <;> simp
    have hi : isSetB c s = true := by revert h; cases hi : isSetB c s <;> simp [hw]
    have hb : leftB c s w = true := by simp [leftB, hw, hi]
    obtain ⟨hc, h2, h3⟩ := wordB_iff.1 hw
    have hs : setP c.length s := by unfold isSetB at hi; simp only [Bool.and_eq_true] at hi; exact setB_iff.1 hi.2
    (repeat (first | refine Run.seq ?_ | refine Run.skip ?_ | refine Run.label ?_ | refine Run.block ?_ | refine Run.unblock ?_)); refine Run.regionW hC (fun K hK => ?_); simp only [AW1, simprocAttr, Int.toNat_natCast, beq_self_eq_true, hX]; (repeat (with_reducible refine And.intro ?_ ?_); focus (first | omega | (intros; simp_all; done) | (intro h; simp only [VB] at h; omega) | (intros; simp_all; omega)))
    refine FunA.callW hP hT (c_impl_leftParts c s w hc hs h3 (by omega)) (by simp only [AW1, simprocAttr, Int.toNat_natCast, beq_self_eq_true]) ?_
    rintro rs o ⟨rfl, rfl⟩
    (try simp only [AW1, simprocAttr, Int.toNat_natCast, beq_self_eq_true, hX]); (repeat (with_reducible refine And.intro ?_ ?_); focus (first | omega | (intros; simp_all; done) | (intro h; simp only [VB] at h; omega) | (intros; simp_all; omega)))
    (repeat (with_reducible refine And.intro ?_ ?_); focus (first | omega | (intros; simp_all; done) | (intro h; simp only [VB] at h; omega) | (intros; simp_all; omega))); refine hK _ ?_; clear hK K; (repeat (first | refine Run.seq ?_ | refine Run.skip ?_ | refine Run.label ?_ | refine Run.block ?_ | refine Run.unblock ?_))
    (repeat (first | refine Run.seq ?_ | refine Run.skip ?_ | refine Run.label ?_ | refine Run.block ?_ | refine Run.unblock ?_)); refine Run.regionW hC (fun K hK => ?_); simp only [AW1, simprocAttr, Int.toNat_natCast, beq_self_eq_true, hX]; (repeat (with_reducible refine And.intro ?_ ?_); focus (first | omega | (intros; simp_all; done) | (intro h; simp only [VB] at h; omega) | (intros; simp_all; omega))); refine hK _ ?_; clear hK K; (repeat (first | refine Run.seq ?_ | refine Run.skip ?_ | refine Run.label ?_ | refine Run.block ?_ | refine Run.unblock ?_))
    refine Run.retW [6, 7, 8] (by decide) (by rw [hfn]; rfl) (by simp only [AW1, simprocAttr, Int.toNat_natCast, beq_self_eq_true, hX]; rfl) (by simp only [AW1, simprocAttr, Int.toNat_natCast, beq_self_eq_true, hX]) (hfin _ _ rfl rfl ?_)
    simp [leftX, leftY, hb]

theorem nf_next {c : List (List Int)} (hc : CartanP c) {i : Int} {v : List Int} {M : Nat} (hv : Far c M v) (hM : M ≤ 31) (hi : 0 ≤ i ∧ i < c.length) :
    redL c (i :: nfL c 31 v) = nfL c 31 (reflL c i v) ∧ letters c.length (i :: nfL c 31 v) ∧ (i :: nfL c 31 v).length = M + 1 := by
  obtain ⟨k1, k2, k3⟩ := nfL_far hc 31 M hv hM
  refine ⟨?_, letters_cons.2 ⟨hi, k2⟩, by simp [k1]⟩
  show nfL c 31 (reflL c i (imageL c (nfL c 31 v))) = _
  rw [k3]

theorem c_spec_LeftParts (c : List (List Int)) (s w : List Int) (hcl : c.length ≤ 1048576) :
    FunA B 39 [.sl false (.row false) c, .sl false .int s, .sl false .int w] (fun rs o => rs = [.own 0 0, .own 1 0, .bool (leftB c s w)] ∧ o = [.arr .int (leftX c s w) 0 true, .arr .int (leftY c s w) 0 true]) := by
  refine FunA.walk B_ok (fn := Try.f39) (fun vs w => Try.call39 vs w) Try.func39 rfl (by rw [Try.ntmps39]; simp) (fun C hC hP hT hΓ hbt hfn hpin hfin => ?_); have hX := BX; rw [← hΓ, ← hbt] at hX; rw [Try.ntmps39]; simp only [AW1, simprocAttr, Int.toNat_natCast, beq_self_eq_true, hX]
  (repeat (first | refine Run.seq ?_ | refine Run.skip ?_ | refine Run.label ?_ | refine Run.block ?_ | refine Run.unblock ?_)); refine Run.regionW hC (fun K hK => ?_); simp only [AW1, simprocAttr, Int.toNat_natCast, beq_self_eq_true, hX]; (repeat (with_reducible refine And.intro ?_ ?_); focus (first | omega | (intros; simp_all; done) | (intro h; simp only [VB] at h; omega) | (intros; simp_all; omega))); refine hK _ ?_; clear hK K; (repeat (first | refine Run.seq ?_ | refine Run.skip ?_ | refine Run.label ?_ | refine Run.block ?_ | refine Run.unblock ?_))
  (repeat (first | refine Run.seq ?_ | refine Run.skip ?_ | refine Run.label ?_ | refine Run.block ?_ | refine Run.unblock ?_)); refine Run.regionW hC (fun K hK => ?_); simp only [AW1, simprocAttr, Int.toNat_natCast, beq_self_eq_true, hX]; (repeat (with_reducible refine And.intro ?_ ?_); focus (first | omega | (intros; simp_all; done) | (intro h; simp only [VB] at h; omega) | (intros; simp_all; omega)))
  refine FunA.callW hP hT (c_spec_NormalForm c w hcl) (by simp only [AW1, simprocAttr, Int.toNat_natCast, beq_self_eq_true]) ?_
  rintro rs o ⟨rfl, rfl⟩
  (try simp only [AW1, simprocAttr, Int.toNat_natCast, beq_self_eq_true, hX]); (repeat (with_reducible refine And.intro ?_ ?_); focus (first | omega | (intros; simp_all; done) | (intro h; simp only [VB] at h; omega) | (intros; simp_all; omega)))
  (repeat (with_reducible refine And.intro ?_ ?_); focus (first | omega | (intros; simp_all; done) | (intro h; simp only [VB] at h; omega) | (intros; simp_all; omega))); refine hK _ ?_; clear hK K; (repeat (first | refine Run.seq ?_ | refine Run.skip ?_ | refine Run.label ?_ | refine Run.block ?_ | refine Run.unblock ?_))
  (repeat (first | refine Run.seq ?_ | refine Run.skip ?_ | refine Run.label ?_ | refine Run.block ?_ | refine Run.unblock ?_)); refine Run.regionW hC (fun K hK => ?_); simp only [AW1, simprocAttr, Int.toNat_natCast, beq_self_eq_true, hX]; (repeat (with_reducible refine And.intro ?_ ?_); focus (first | omega | (intros; simp_all; done) | (intro h; simp only [VB] at h; omega) | (intros; simp_all; omega)))
  refine .inl (FunA.callG hP hT (c_spec_l3Set c s hcl) (fun _ => rfl) (fun _ => by simp only [AW1, simprocAttr, Int.toNat_natCast, beq_self_eq_true]) ?_)
  (try simp only [AW1, simprocAttr, Int.toNat_natCast, beq_self_eq_true, hX]); (repeat (with_reducible refine And.intro ?_ ?_); focus (first | omega | (intros; simp_all; done) | (intro h; simp only [VB] at h; omega) | (intros; simp_all; omega)))
  (repeat (with_reducible refine And.intro ?_ ?_); focus (first | omega | (intros; simp_all; done) | (intro h; simp only [VB] at h; omega) | (intros; simp_all; omega))); refine hK _ ?_; clear hK K; (repeat (first | refine Run.seq ?_ | refine Run.skip ?_ | refine Run.label ?_ | refine Run.block ?_ | refine Run.unblock ?_))
  (repeat (first | refine Run.seq ?_ | refine Run.skip ?_ | refine Run.label ?_ | refine Run.block ?_ | refine Run.unblock ?_)); refine Run.condW (by simp only [AW1, simprocAttr, Int.toNat_natCast, beq_self_eq_true, hX]; rfl) (by simp only [AW1, simprocAttr, Int.toNat_natCast, beq_self_eq_true, hX]) ?_ ?_
  · intro h
    have h : leftB c s w = false := by
      revert h
      cases hw : wordB c w <;> cases hi : isSetB c s <;> simp [leftB, hw, hi]
    (repeat (first | refine Run.seq ?_ | refine Run.skip ?_ | refine Run.label ?_ | refine Run.block ?_ | refine Run.unblock ?_)); refine Run.regionW hC (fun K hK => ?_); simp only [AW1, simprocAttr, Int.toNat_natCast, beq_self_eq_true, hX]; (repeat (with_reducible refine And.intro ?_ ?_); focus (first | omega | (intros; simp_all; done) | (intro h; simp only [VB] at h; omega) | (intros; simp_all; omega))); refine hK _ ?_; clear hK K; (repeat (first | refine Run.seq ?_ | refine Run.skip ?_ | refine Run.label ?_ | refine Run.block ?_ | refine Run.unblock ?_))
    refine Run.le (Le.re (obs' := [.arr .int [] 0 true, .arr .int [] 0 true]) hpin [1, 2] [(6, true, .own 0 0), (7, true, .own 1 0), (8, true, .bool false)] rfl (by simp [leOs, leO_arr, oAt]) (by refine ⟨⟨_, rfl, ?_⟩, ⟨_, rfl, ?_⟩, ⟨_, rfl, ?_⟩, trivial⟩ <;> simp [leAV, oAt, genO])) ?_; simp only [frV_cons, frV_nil]
    refine Run.retW [6, 7, 8] (by decide) (by rw [hfn]; rfl) (by simp only [AW1, simprocAttr, Int.toNat_natCast, beq_self_eq_true, hX]; rfl) (by simp only [AW1, simprocAttr, Int.toNat_natCast, beq_self_eq_true, hX]) (hfin _ _ rfl rfl ?_)
    simp [leftX, leftY, h]
  · intro h
    have hw : wordB c w = true := by revert h; cases hw : wordB c w <;> simp
    have hi : isSetB c s = true := by revert h; cases hi : isSetB c s <;> simp [hw]
    have hb : leftB c s w = true := by simp [leftB, hw, hi]
    obtain ⟨hc, h2, h3⟩ := wordB_iff.1 hw
    have hs : setP c.length s := by unfold isSetB at hi; simp only [Bool.and_eq_true] at hi; exact setB_iff.1 hi.2
    have hset := set_letters hs
    have hsl := set_len hs
    have hn := hc.2.1
    obtain ⟨L, l1, l2, l3⟩ := Far.image hc h3
    have e1 : nfW c w = nfL c 31 (imageL c w) := by unfold nfW; rw [if_pos hw]; rfl
    rw [e1]
    (repeat (first | refine Run.seq ?_ | refine Run.skip ?_ | refine Run.label ?_ | refine Run.block ?_ | refine Run.unblock ?_)); refine Run.regionW hC (fun K hK => ?_); simp only [AW1, simprocAttr, Int.toNat_natCast, beq_self_eq_true, hX]; (repeat (with_reducible refine And.intro ?_ ?_); focus (first | omega | (intros; simp_all; done) | (intro h; simp only [VB] at h; omega) | (intros; simp_all; omega))); refine hK _ ?_; clear hK K; (repeat (first | refine Run.seq ?_ | refine Run.skip ?_ | refine Run.label ?_ | refine Run.block ?_ | refine Run.unblock ?_))
    (repeat (first | refine Run.seq ?_ | refine Run.skip ?_ | refine Run.label ?_ | refine Run.block ?_ | refine Run.unblock ?_)); refine Run.regionW hC (fun K hK => ?_); simp only [AW1, simprocAttr, Int.toNat_natCast, beq_self_eq_true, hX]; (repeat (with_reducible refine And.intro ?_ ?_); focus (first | omega | (intros; simp_all; done) | (intro h; simp only [VB] at h; omega) | (intros; simp_all; omega))); refine hK _ ?_; clear hK K; (repeat (first | refine Run.seq ?_ | refine Run.skip ?_ | refine Run.label ?_ | refine Run.block ?_ | refine Run.unblock ?_))
    refine Run.keep [0, 1, 6, 7, 8, 9, 11, 12] ?_; simp only [AK, Nat.reduceBEq]
    refine Run.loopI (X := List Int × List Int × Nat) (fun x => ⟨79, [(0, true, .v (.sl false (.row false) c)), (1, true, .v (.sl false .int s)), (6, true, .v .nils), (7, true, .v .nils), (8, true, .v (.bool false)), (9, true, .v (.own 0 0)), (11, true, .v (.own 1 x.2.2)), (12, true, .v (.int .i64 x.1.length))], [.arr .int (nfL c 31 x.2.1) 0 true, .arr .int x.1 x.2.2 true]⟩) (fun x => LP c s (imageL c w) L x.1 x.2.1) (fun x => L - x.1.length) ([], imageL c w, 0) (LP.start l3) ?_ ?_
    · exact Le.sub (by rfl) (by simp only [AW1, simprocAttr, Int.toNat_natCast, beq_self_eq_true, hX]; try simp)
    rintro ⟨a, v, g⟩ hLP ih
    simp only [] at hLP ⊢
    have hvl : v.length = c.length := hLP.far.1
    have hal := hLP.le
    obtain ⟨q1, q2, q3⟩ := nfL_far hc 31 (L - a.length) hLP.far (by omega)
    (repeat (first | refine Run.seq ?_ | refine Run.skip ?_ | refine Run.label ?_ | refine Run.block ?_ | refine Run.unblock ?_)); refine Run.regionW hC (fun K hK => ?_); simp only [AW1, simprocAttr, Int.toNat_natCast, beq_self_eq_true, hX]; (repeat (with_reducible refine And.intro ?_ ?_); focus (first | omega | (intros; simp_all; done) | (intro h; simp only [VB] at h; omega) | (intros; simp_all; omega))); refine hK _ ?_; clear hK K; (repeat (first | refine Run.seq ?_ | refine Run.skip ?_ | refine Run.label ?_ | refine Run.block ?_ | refine Run.unblock ?_))
    (repeat (first | refine Run.seq ?_ | refine Run.skip ?_ | refine Run.label ?_ | refine Run.block ?_ | refine Run.unblock ?_)); refine Run.condW (by simp only [AW1, simprocAttr, Int.toNat_natCast, beq_self_eq_true, hX]; rfl) (by simp only [AW1, simprocAttr, Int.toNat_natCast, beq_self_eq_true, hX]) ?_ ?_
    · intro h
      (repeat (first | refine Run.seq ?_ | refine Run.skip ?_ | refine Run.label ?_ | refine Run.block ?_ | refine Run.unblock ?_)); refine Run.regionW hC (fun K hK => ?_); simp only [AW1, simprocAttr, Int.toNat_natCast, beq_self_eq_true, hX]; (repeat (with_reducible refine And.intro ?_ ?_); focus (first | omega | (intros; simp_all; done) | (intro h; simp only [VB] at h; omega) | (intros; simp_all; omega))); refine hK _ ?_; clear hK K; (repeat (first | refine Run.seq ?_ | refine Run.skip ?_ | refine Run.label ?_ | refine Run.block ?_ | refine Run.unblock ?_))
      (repeat (first | refine Run.seq ?_ | refine Run.skip ?_ | refine Run.label ?_ | refine Run.block ?_ | refine Run.unblock ?_)); refine Run.regionW hC (fun K hK => ?_); simp only [AW1, simprocAttr, Int.toNat_natCast, beq_self_eq_true, hX]; (repeat (with_reducible refine And.intro ?_ ?_); focus (first | omega | (intros; simp_all; done) | (intro h; simp only [VB] at h; omega) | (intros; simp_all; omega)))
      refine FunA.callW hP hT (c_spec_l8Image c (nfL c 31 v) hc q2 (by omega)) (by simp only [AW1, simprocAttr, Int.toNat_natCast, beq_self_eq_true]) ?_
      rintro rs o ⟨rfl, rfl⟩
      (try simp only [AW1, simprocAttr, Int.toNat_natCast, beq_self_eq_true, hX]); (repeat (with_reducible refine And.intro ?_ ?_); focus (first | omega | (intros; simp_all; done) | (intro h; simp only [VB] at h; omega) | (intros; simp_all; omega)))
      (repeat (with_reducible refine And.intro ?_ ?_); focus (first | omega | (intros; simp_all; done) | (intro h; simp only [VB] at h; omega) | (intros; simp_all; omega))); refine hK _ ?_; clear hK K; (repeat (first | refine Run.seq ?_ | refine Run.skip ?_ | refine Run.label ?_ | refine Run.block ?_ | refine Run.unblock ?_))
      rw [q3]
      refine Run.keep [0, 1, 6, 7, 8, 9, 11, 12, 13, 14] ?_; simp only [AK, Nat.reduceBEq]
      refine Run.loopI (X := Nat) (fun i => ⟨79, [(0, true, .v (.sl false (.row false) c)), (1, true, .v (.sl false .int s)), (6, true, .v .nils), (7, true, .v .nils), (8, true, .v (.bool false)), (9, true, .v (.own 0 0)), (11, true, .v (.own 1 g)), (12, true, .v (.int .i64 a.length)), (13, true, .v (.int .i64 i)), (14, true, .v (.own 2 0))], [.arr .int (nfL c 31 v) 0 true, .arr .int a g true, .arr .int v 0 true]⟩) (fun i => i ≤ s.length ∧ ∀ j, j < i → 0 ≤ v.getD (s.getD j 0).toNat 0) (fun i => s.length - i) 0 ⟨Nat.zero_le _, by omega⟩ ?_ ?_
      · exact Le.sub (by rfl) (by simp only [AW1, simprocAttr, Int.toNat_natCast, beq_self_eq_true, hX]; try simp)
      rintro i ⟨hi2, hp⟩ ihs
      have hlet : i < s.length → 0 ≤ s.getD i 0 ∧ s.getD i 0 < c.length := fun h => letters_getD.1 hset i h
      (repeat (first | refine Run.seq ?_ | refine Run.skip ?_ | refine Run.label ?_ | refine Run.block ?_ | refine Run.unblock ?_)); refine Run.regionW hC (fun K hK => ?_); simp only [AW1, simprocAttr, Int.toNat_natCast, beq_self_eq_true, hX]; (repeat (with_reducible refine And.intro ?_ ?_); focus (first | omega | (intros; simp_all; done) | (intro h; simp only [VB] at h; omega) | (intros; simp_all; omega))); refine hK _ ?_; clear hK K; (repeat (first | refine Run.seq ?_ | refine Run.skip ?_ | refine Run.label ?_ | refine Run.block ?_ | refine Run.unblock ?_))
      refine Run.keep [0, 1, 6, 7, 8, 9, 11, 12, 13, 14, 52] ?_; simp only [AK, Nat.reduceBEq]
      (repeat (first | refine Run.seq ?_ | refine Run.skip ?_ | refine Run.label ?_ | refine Run.block ?_ | refine Run.unblock ?_)); refine Run.condW (by simp only [AW1, simprocAttr, Int.toNat_natCast, beq_self_eq_true, hX]; rfl) (by simp only [AW1, simprocAttr, Int.toNat_natCast, beq_self_eq_true, hX]) ?_ ?_
      · intro h4
        have h4 : i < s.length ∧ 0 < v.getD (s.getD i 0).toNat 0 := by
          by_cases hq : i < s.length
          · have hq' : (i : Int) < s.length := by omega
            simp only [hq', decide_true, cond_true, decide_eq_true_eq] at h4
            exact ⟨hq, h4⟩
          · have hq' : ¬ (i : Int) < s.length := by omega
            simp [hq'] at h4
        (repeat (first | refine Run.seq ?_ | refine Run.skip ?_ | refine Run.label ?_ | refine Run.block ?_ | refine Run.unblock ?_)); refine Run.regionW hC (fun K hK => ?_); simp (disch := omega) only [wrap_id, AW1, simprocAttr, Int.toNat_natCast, beq_self_eq_true, hX]; (repeat (with_reducible refine And.intro ?_ ?_); focus (first | omega | (intros; simp_all; done) | (intro h; simp only [VB] at h; omega) | (intros; simp_all; omega))); refine hK _ ?_; clear hK K; (repeat (first | refine Run.seq ?_ | refine Run.skip ?_ | refine Run.label ?_ | refine Run.block ?_ | refine Run.unblock ?_))
        refine Run.le ?_ (ihs (i + 1) ⟨h4.1, fun j hj => ?_⟩ (by omega))
        · exact Le.sub (by simp only [AW1, simprocAttr, Int.toNat_natCast, beq_self_eq_true]) (by simp only [AW1, simprocAttr, Int.toNat_natCast, beq_self_eq_true, Option.some.injEq, Prod.mk.injEq, Sl.v.injEq, AV.int.injEq, AV.own.injEq, AV.bool.injEq]; try (repeat' apply And.intro); all_goals omega)
        · rcases Nat.lt_succ_iff_lt_or_eq.1 hj with h | rfl
          · exact hp j h
          · omega
      · intro h4
        refine Run.exit rfl ?_; (repeat (first | refine Run.seq ?_ | refine Run.skip ?_ | refine Run.label ?_ | refine Run.block ?_ | refine Run.unblock ?_))
        (repeat (first | refine Run.seq ?_ | refine Run.skip ?_ | refine Run.label ?_ | refine Run.block ?_ | refine Run.unblock ?_)); refine Run.regionW hC (fun K hK => ?_); simp only [AW1, simprocAttr, Int.toNat_natCast, beq_self_eq_true, hX]; (repeat (with_reducible refine And.intro ?_ ?_); focus (first | omega | (intros; simp_all; done) | (intro h; simp only [VB] at h; omega) | (intros; simp_all; omega))); refine hK _ ?_; clear hK K; (repeat (first | refine Run.seq ?_ | refine Run.skip ?_ | refine Run.label ?_ | refine Run.block ?_ | refine Run.unblock ?_))
        refine Run.keep [0, 1, 6, 7, 8, 9, 11, 12, 13, 14, 58] ?_; simp only [AK, Nat.reduceBEq]
        (repeat (first | refine Run.seq ?_ | refine Run.skip ?_ | refine Run.label ?_ | refine Run.block ?_ | refine Run.unblock ?_)); refine Run.condW (by simp only [AW1, simprocAttr, Int.toNat_natCast, beq_self_eq_true, hX]; rfl) (by simp only [AW1, simprocAttr, Int.toNat_natCast, beq_self_eq_true, hX]) ?_ ?_
        · intro h5
          have h5 : i = s.length := by simp at h5; omega
          subst h5
          have hst := hLP.stop (by rw [firstIn_none v s hp]; decide)
          refine Run.exit rfl ?_; (repeat (first | refine Run.seq ?_ | refine Run.skip ?_ | refine Run.label ?_ | refine Run.block ?_ | refine Run.unblock ?_))
          (repeat (first | refine Run.seq ?_ | refine Run.skip ?_ | refine Run.label ?_ | refine Run.block ?_ | refine Run.unblock ?_)); refine Run.regionW hC (fun K hK => ?_); simp only [AW1, simprocAttr, Int.toNat_natCast, beq_self_eq_true, hX]; (repeat (with_reducible refine And.intro ?_ ?_); focus (first | omega | (intros; simp_all; done) | (intro h; simp only [VB] at h; omega) | (intros; simp_all; omega)))
          refine FunA.callW hP hT (c_spec_l8Normal c a hc hLP.let_ (by omega)) (by simp only [AW1, simprocAttr, Int.toNat_natCast, beq_self_eq_true]) ?_
          rintro rs o ⟨rfl, rfl⟩
          (try simp only [AW1, simprocAttr, Int.toNat_natCast, beq_self_eq_true, hX]); (repeat (with_reducible refine And.intro ?_ ?_); focus (first | omega | (intros; simp_all; done) | (intro h; simp only [VB] at h; omega) | (intros; simp_all; omega)))
          (repeat (with_reducible refine And.intro ?_ ?_); focus (first | omega | (intros; simp_all; done) | (intro h; simp only [VB] at h; omega) | (intros; simp_all; omega))); refine hK _ ?_; clear hK K; (repeat (first | refine Run.seq ?_ | refine Run.skip ?_ | refine Run.label ?_ | refine Run.block ?_ | refine Run.unblock ?_))
          refine Run.le (Le.re (obs' := [.arr .int (redL c a) 0 true, .arr .int (nfL c 31 v) 0 true]) hpin [3, 0] [(6, true, .own 0 0), (7, true, .own 1 0), (8, true, .bool true)] rfl (by simp [leOs, leO_arr, oAt]) (by refine ⟨⟨_, rfl, ?_⟩, ⟨_, rfl, ?_⟩, ⟨_, rfl, ?_⟩, trivial⟩ <;> simp [leAV, oAt, genO])) ?_; simp only [frV_cons, frV_nil]
          refine Run.retW [6, 7, 8] (by decide) (by rw [hfn]; rfl) (by simp only [AW1, simprocAttr, Int.toNat_natCast, beq_self_eq_true, hX]; rfl) (by simp only [AW1, simprocAttr, Int.toNat_natCast, beq_self_eq_true, hX]) (hfin _ _ rfl rfl ?_)
          simp [leftX, leftY, hb, hst]
        · intro h5
          have h5 : i < s.length := by
            have : ¬ i = s.length := by intro hk; subst hk; simp at h5
            omega
          have hlt := hlet h5
          have hnp : v.getD (s.getD i 0).toNat 0 < 0 := by
            have hz := hLP.far.nz hc (s.getD i 0).toNat (by omega)
            have hq' : (i : Int) < s.length := by omega
            simp only [hq', decide_true, cond_true, decide_eq_false_iff_not] at h4
            omega
          have hfi := firstIn_at v s i h5 hp hnp
          obtain ⟨hLP2, hlt2, _⟩ := hLP.step hc hset (by omega) (by rw [hfi]; omega)
          rw [hfi] at hLP2
          obtain ⟨n1, n2, n3⟩ := nf_next hc hLP.far (by omega) hlt
          (repeat (first | refine Run.seq ?_ | refine Run.skip ?_ | refine Run.label ?_ | refine Run.block ?_ | refine Run.unblock ?_)); refine Run.regionW hC (fun K hK => ?_); simp only [AW1, simprocAttr, Int.toNat_natCast, beq_self_eq_true, hX]; (repeat (with_reducible refine And.intro ?_ ?_); focus (first | omega | (intros; simp_all; done) | (intro h; simp only [VB] at h; omega) | (intros; simp_all; omega))); refine hK _ ?_; clear hK K; (repeat (first | refine Run.seq ?_ | refine Run.skip ?_ | refine Run.label ?_ | refine Run.block ?_ | refine Run.unblock ?_))
          (repeat (first | refine Run.seq ?_ | refine Run.skip ?_ | refine Run.label ?_ | refine Run.block ?_ | refine Run.unblock ?_)); refine Run.regionW hC (fun K hK => ?_); simp only [AW1, simprocAttr, Int.toNat_natCast, beq_self_eq_true, hX]; (repeat (with_reducible refine And.intro ?_ ?_); focus (first | omega | (intros; simp_all; done) | (intro h; simp only [VB] at h; omega) | (intros; simp_all; omega)))
          refine FunA.callW hP hT (c_spec_ConcatWords [s.getD i 0] (nfL c 31 v) (by simp) (by omega)) (by simp only [AW1, simprocAttr, Int.toNat_natCast, beq_self_eq_true]) ?_
          rintro rs o ⟨rfl, rfl⟩
          (try simp only [AW1, simprocAttr, Int.toNat_natCast, beq_self_eq_true, hX]); (repeat (with_reducible refine And.intro ?_ ?_); focus (first | omega | (intros; simp_all; done) | (intro h; simp only [VB] at h; omega) | (intros; simp_all; omega)))
          rw [show ([s.getD i 0] ++ nfL c 31 v) = s.getD i 0 :: nfL c 31 v from rfl]
          refine FunA.callW hP hT (c_spec_l8Normal c (s.getD i 0 :: nfL c 31 v) hc n2 (by omega)) (by simp only [AW1, simprocAttr, Int.toNat_natCast, beq_self_eq_true]) ?_
          rintro rs o ⟨rfl, rfl⟩
          rw [n1]
          (try simp only [AW1, simprocAttr, Int.toNat_natCast, beq_self_eq_true, hX]); (repeat (with_reducible refine And.intro ?_ ?_); focus (first | omega | (intros; simp_all; done) | (intro h; simp only [VB] at h; omega) | (intros; simp_all; omega)))
          (repeat (with_reducible refine And.intro ?_ ?_); focus (first | omega | (intros; simp_all; done) | (intro h; simp only [VB] at h; omega) | (intros; simp_all; omega))); refine hK _ ?_; clear hK K; (repeat (first | refine Run.seq ?_ | refine Run.skip ?_ | refine Run.label ?_ | refine Run.block ?_ | refine Run.unblock ?_))
          refine Run.le (Le.re (obs' := [.arr .int (nfL c 31 (reflL c (s.getD i 0) v)) 0 true, .arr .int (a ++ [s.getD i 0]) (g + 1) true]) hpin [6, 1] [(0, true, .sl false (.row false) c), (1, true, .sl false .int s), (6, true, .nils), (7, true, .nils), (8, true, .bool false), (9, true, .own 0 0), (11, true, .own 1 (g + 1)), (12, true, .int .i64 a.length)] rfl (by simp [leOs, leO_arr, oAt]) (by refine ⟨⟨_, rfl, ?_⟩, ⟨_, rfl, ?_⟩, ⟨_, rfl, ?_⟩, ⟨_, rfl, ?_⟩, ⟨_, rfl, ?_⟩, ⟨_, rfl, ?_⟩, ⟨_, rfl, ?_⟩, ⟨_, rfl, ?_⟩, trivial⟩ <;> simp [leAV, oAt, genO])) ?_; simp only [frV_cons, frV_nil]
          (repeat (first | refine Run.seq ?_ | refine Run.skip ?_ | refine Run.label ?_ | refine Run.block ?_ | refine Run.unblock ?_)); refine Run.regionW hC (fun K hK => ?_); simp (disch := omega) only [wrap_id, AW1, simprocAttr, Int.toNat_natCast, beq_self_eq_true, hX]; (repeat (with_reducible refine And.intro ?_ ?_); focus (first | omega | (intros; simp_all; done) | (intro h; simp only [VB] at h; omega) | (intros; simp_all; omega))); refine hK _ ?_; clear hK K; (repeat (first | refine Run.seq ?_ | refine Run.skip ?_ | refine Run.label ?_ | refine Run.block ?_ | refine Run.unblock ?_))
          refine Run.le ?_ (ih (a ++ [s.getD i 0], reflL c (s.getD i 0) v, g + 1) hLP2 (by simp; omega))
          exact Le.sub (by rfl) (by simp only [AW1, simprocAttr, Int.toNat_natCast, beq_self_eq_true]; try simp)
    · intro h
      simp at h
      omega
end Go.Proofs.Ytbeeblhmgpgkjaa

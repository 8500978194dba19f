/- Star products of two words; elements that are their own star square. -/
import Derived.Test.YtbeeblhmgpgkjaaStarFns
set_option linter.unusedVariables false
set_option linter.unusedSimpArgs false
namespace Go.Proofs.Ytbeeblhmgpgkjaa
open Go Go.Aw Go.Cox

/-- The star product of two words, as far as it is given out. -/
noncomputable def starPrB (c : List (List Int)) (a b : List Int) : Bool := wordB c a && wordB c b && decide ((starW c (redL c a) (redL c b)).length ≤ 15)
noncomputable def starPr (c : List (List Int)) (a b : List Int) : List Int := if starPrB c a b then starW c (redL c a) (redL c b) else []
theorem starPr_le (c : List (List Int)) (a b : List Int) : (starPr c a b).length ≤ 15 := by
  unfold starPr
  split
  · rename_i h
    simp only [starPrB, Bool.and_eq_true, decide_eq_true_eq] at h
    exact h.2
  · simp

theorem c_spec_StarProduct (c : List (List Int)) (a b : List Int) (hcl : c.length ≤ 1048576) :
    FunA B 35 [.sl false (.row false) c, .sl false .int a, .sl false .int b] (fun rs o => rs = [.own 0 0, .bool (starPrB c a b)] ∧ o = [.arr .int (starPr c a b) 0 true]) := by
  refine FunA.walk B_ok (fn := Try.f35) (fun vs w => Try.call35 vs w) Try.func35 rfl (by rw [Try.ntmps35]; simp) (fun C hC hP hT hΓ hbt hfn hpin hfin => ?_); have hX := BX; rw [← hΓ, ← hbt] at hX; rw [Try.ntmps35]; simp only [AW4, simprocAttr, hX]
  refine Run.nq ?_; refine Run.regionW hC (fun K hK => ?_); simp only [AW4, simprocAttr, hX]; (repeat (with_reducible refine And.intro ?_ ?_); exact vc0); refine hK _ ?_; clear hK K; refine Run.nq ?_
  refine Run.nq ?_; refine Run.regionW hC (fun K hK => ?_); simp only [AW4, simprocAttr, hX]; (repeat (with_reducible refine And.intro ?_ ?_); exact vc0)
  refine FunA.callW hP hT (c_spec_NormalForm c a hcl) (by simp only [AW4, simprocAttr]) ?_
  rintro rs o ⟨rfl, rfl⟩
  (try simp only [AW4, simprocAttr, hX]); (repeat (with_reducible refine And.intro ?_ ?_); exact vc0)
  (repeat (with_reducible refine And.intro ?_ ?_); exact vc0); refine hK _ ?_; clear hK K; refine Run.nq ?_
  refine Run.nq ?_; refine Run.regionW hC (fun K hK => ?_); simp only [AW4, simprocAttr, hX]; (repeat (with_reducible refine And.intro ?_ ?_); exact vc0)
  refine FunA.callW hP hT (c_spec_NormalForm c b hcl) (by simp only [AW4, simprocAttr]) ?_
  rintro rs o ⟨rfl, rfl⟩
  (try simp only [AW4, simprocAttr, hX]); (repeat (with_reducible refine And.intro ?_ ?_); exact vc0)
  (repeat (with_reducible refine And.intro ?_ ?_); exact vc0); refine hK _ ?_; clear hK K; refine Run.nq ?_
  refine Run.nq ?_; refine Run.regionW hC (fun K hK => ?_); simp only [AW4, simprocAttr, hX]; (repeat (with_reducible refine And.intro ?_ ?_); exact vc0); refine hK _ ?_; clear hK K; refine Run.nq ?_
  refine Run.nq ?_; refine Run.condW (by simp only [AW4, simprocAttr, hX]; rfl) (by simp only [AW4, simprocAttr, hX]) ?_ ?_
  · intro h
    have h : starPrB c a b = false := by
      revert h
      cases hw : wordB c a <;> cases hi : wordB c b <;> simp [starPrB, hw, hi]
    refine Run.nq ?_; refine Run.regionW hC (fun K hK => ?_); simp only [AW4, simprocAttr, hX]; (repeat (with_reducible refine And.intro ?_ ?_); exact vc0); refine hK _ ?_; clear hK K; refine Run.nq ?_
    refine Run.le (Le.re (obs' := [.arr .int [] 0 true]) hpin [2] [(6, true, .own 0 0), (7, true, .bool false)] rfl (by simp [leOs, leO_arr, oAt]) (by refine ⟨⟨_, rfl, ?_⟩, ⟨_, rfl, ?_⟩, trivial⟩ <;> simp [leAV, oAt, genO])) ?_; simp only [frV_cons, frV_nil]
    refine Run.retW [6, 7] (by decide) (by rw [hfn]; rfl) (by simp only [AW4, simprocAttr, hX]; rfl) (by simp only [AW4, simprocAttr, hX]) (hfin _ _ rfl rfl ?_)
    simp [starPr, h]
  · intro h
    have hw : wordB c a = true := by revert h; cases hw : wordB c a <;> simp
    have hi : wordB c b = true := by revert h; cases hi : wordB c b <;> simp [hw]
    obtain ⟨hc, h2, h3⟩ := wordB_iff.1 hw
    obtain ⟨_, h5, h6⟩ := wordB_iff.1 hi
    have e1 : nfW c a = redL c a := by unfold nfW; rw [if_pos hw]
    have e2 : nfW c b = redL c b := by unfold nfW; rw [if_pos hi]
    rw [e1, e2]
    obtain ⟨a1, a2, a3, a4, a5⟩ := red_spec hc h3 (by omega)
    obtain ⟨b1, b2, b3, b4, b5⟩ := red_spec hc h6 (by omega)
    have hR := red_Red hc h3 (by omega)
    have hlen := starW_len hc hR b1 (by omega)
    have eb : starPrB c a b = decide ((starW c (redL c a) (redL c b)).length ≤ 15) := by simp [starPrB, hw, hi]
    refine Run.nq ?_; refine Run.regionW hC (fun K hK => ?_); simp only [AW4, simprocAttr, hX]; (repeat (with_reducible refine And.intro ?_ ?_); exact vc0)
    refine FunM.call hP hT (c_spec_l20Star c (redL c a) (redL c b) true hc hR b1 (by omega)) 0 0 (by simp only [AW4, simprocAttr]; rfl) (by simp) rfl (by simp only [AW4, simprocAttr]; try simp) ?_
    rintro rs o o2 (⟨rfl, h4, e⟩ | ⟨rfl, h4⟩)
    · obtain ⟨rfl, rfl⟩ := List.cons.inj h4
      (try simp only [AW4, simprocAttr, hX]); (repeat (with_reducible refine And.intro ?_ ?_); exact vc0)
      refine FunA.callW hP hT (c_spec_l20Fit (redL c a) (by omega)) (by simp only [AW4, simprocAttr]) ?_
      rintro rs o ⟨rfl, rfl⟩
      (try simp only [AW4, simprocAttr, hX]); (repeat (with_reducible refine And.intro ?_ ?_); exact vc0)
      (repeat (with_reducible refine And.intro ?_ ?_); exact vc0); refine hK _ ?_; clear hK K; refine Run.nq ?_
      refine Run.nq ?_; refine Run.regionW hC (fun K hK => ?_); simp only [AW4, simprocAttr, hX]; (repeat (with_reducible refine And.intro ?_ ?_); exact vc0); refine hK _ ?_; clear hK K; refine Run.nq ?_
      refine Run.le (Le.re (obs' := [.arr .int (starPr c a b) 0 true]) hpin [2] [(6, true, .own 0 0), (7, true, .bool (starPrB c a b))] rfl (by simp [leOs, leO_arr, oAt, starPr, eb, e]) (by refine ⟨⟨_, rfl, ?_⟩, ⟨_, rfl, ?_⟩, trivial⟩ <;> simp [leAV, oAt, genO, starPr, eb, e])) ?_; simp only [frV_cons, frV_nil]
      refine Run.retW [6, 7] (by decide) (by rw [hfn]; rfl) (by simp only [AW4, simprocAttr, hX]; rfl) (by simp only [AW4, simprocAttr, hX]) (hfin _ _ rfl rfl ?_)
      exact ⟨rfl, rfl⟩
    · obtain ⟨rfl, rfl⟩ := List.cons.inj h4
      (try simp only [AW4, simprocAttr, hX]); (repeat (with_reducible refine And.intro ?_ ?_); exact vc0)
      refine FunA.callW hP hT (c_spec_l20Fit (starW c (redL c a) (redL c b)) (by omega)) (by simp only [AW4, simprocAttr]) ?_
      rintro rs o ⟨rfl, rfl⟩
      (try simp only [AW4, simprocAttr, hX]); (repeat (with_reducible refine And.intro ?_ ?_); exact vc0)
      (repeat (with_reducible refine And.intro ?_ ?_); exact vc0); refine hK _ ?_; clear hK K; refine Run.nq ?_
      refine Run.nq ?_; refine Run.regionW hC (fun K hK => ?_); simp only [AW4, simprocAttr, hX]; (repeat (with_reducible refine And.intro ?_ ?_); exact vc0); refine hK _ ?_; clear hK K; refine Run.nq ?_
      refine Run.le (Le.re (obs' := [.arr .int (starPr c a b) 0 true]) hpin [3] [(6, true, .own 0 0), (7, true, .bool (starPrB c a b))] rfl (by simp [leOs, leO_arr, oAt, starPr, eb]) (by refine ⟨⟨_, rfl, ?_⟩, ⟨_, rfl, ?_⟩, trivial⟩ <;> simp [leAV, oAt, genO, starPr, eb])) ?_; simp only [frV_cons, frV_nil]
      refine Run.retW [6, 7] (by decide) (by rw [hfn]; rfl) (by simp only [AW4, simprocAttr, hX]; rfl) (by simp only [AW4, simprocAttr, hX]) (hfin _ _ rfl rfl ?_)
      exact ⟨rfl, rfl⟩

theorem c_impl_StarProduct (c : List (List Int)) (a b : List Int) (hcl : c.length ≤ 1048576) :
    FunA B 36 [.sl false (.row false) c, .sl false .int a, .sl false .int b] (fun rs o => rs = [.own 0 0, .bool (starPrB c a b)] ∧ o = [.arr .int (starPr c a b) 0 true]) := by
  refine FunA.walk B_ok (fn := Try.f36) (fun vs w => Try.call36 vs w) Try.func36 rfl (by rw [Try.ntmps36]; simp) (fun C hC hP hT hΓ hbt hfn hpin hfin => ?_); have hX := BX; rw [← hΓ, ← hbt] at hX; rw [Try.ntmps36]; simp only [AW4, simprocAttr, hX]
  refine Run.nq ?_; refine Run.regionW hC (fun K hK => ?_); simp only [AW4, simprocAttr, hX]; (repeat (with_reducible refine And.intro ?_ ?_); exact vc0); refine hK _ ?_; clear hK K; refine Run.nq ?_
  refine Run.nq ?_; refine Run.regionW hC (fun K hK => ?_); simp only [AW4, simprocAttr, hX]; (repeat (with_reducible refine And.intro ?_ ?_); exact vc0)
  refine FunA.callW hP hT (c_impl_IsWord c a) (by simp only [AW4, simprocAttr]) ?_
  rintro rs o ⟨rfl, rfl⟩
  (try simp only [AW4, simprocAttr, hX]); (repeat (with_reducible refine And.intro ?_ ?_); exact vc0)
  refine .inl (FunA.callG hP hT (c_impl_IsWord c b) (fun _ => rfl) (fun _ => by simp only [AW4, simprocAttr]) ?_)
  (try simp only [AW4, simprocAttr, hX]); (repeat (with_reducible refine And.intro ?_ ?_); exact vc0)
  (repeat (with_reducible refine And.intro ?_ ?_); exact vc0); refine hK _ ?_; clear hK K; refine Run.nq ?_
  refine Run.nq ?_; refine Run.condW (by simp only [AW4, simprocAttr, hX]; rfl) (by simp only [AW4, simprocAttr, hX]) ?_ ?_
  · intro h
    have h : starPrB c a b = false := by
      revert h
      cases hw : wordB c a <;> cases hi : wordB c b <;> simp [starPrB, hw, hi]
    refine Run.nq ?_; refine Run.regionW hC (fun K hK => ?_); simp only [AW4, simprocAttr, hX]; (repeat (with_reducible refine And.intro ?_ ?_); exact vc0); refine hK _ ?_; clear hK K; refine Run.nq ?_
    refine Run.retW [6, 7] (by decide) (by rw [hfn]; rfl) (by simp only [AW4, simprocAttr, hX]; rfl) (by simp only [AW4, simprocAttr, hX]) (hfin _ _ rfl rfl ?_)
    simp [starPr, h]
  · intro h
    have hw : wordB c a = true := by revert h; cases hw : wordB c a <;> simp
    have hi : wordB c b = true := by revert h; cases hi : wordB c b <;> simp [hw]
    obtain ⟨hc, h2, h3⟩ := wordB_iff.1 hw
    obtain ⟨_, h5, h6⟩ := wordB_iff.1 hi
    obtain ⟨a1, a2, a3, a4, a5⟩ := red_spec hc h3 (by omega)
    obtain ⟨b1, b2, b3, b4, b5⟩ := red_spec hc h6 (by omega)
    have hR0 := red_Red hc h3 (by omega)
    have hlen := starW_len hc hR0 b1 (by omega)
    have eb : starPrB c a b = decide ((starW c (redL c a) (redL c b)).length ≤ 15) := by simp [starPrB, hw, hi]
    refine Run.nq ?_; refine Run.regionW hC (fun K hK => ?_); simp only [AW4, simprocAttr, hX]; (repeat (with_reducible refine And.intro ?_ ?_); exact vc0)
    refine FunA.callW hP hT (c_impl_reduced c a hc h3 (by omega)) (by simp only [AW4, simprocAttr]) ?_
    rintro rs o ⟨rfl, rfl⟩
    (try simp only [AW4, simprocAttr, hX]); (repeat (with_reducible refine And.intro ?_ ?_); exact vc0)
    (repeat (with_reducible refine And.intro ?_ ?_); exact vc0); refine hK _ ?_; clear hK K; refine Run.nq ?_
    refine Run.nq ?_; refine Run.regionW hC (fun K hK => ?_); simp only [AW4, simprocAttr, hX]; (repeat (with_reducible refine And.intro ?_ ?_); exact vc0)
    refine FunA.callW hP hT (c_impl_reduced c b hc h6 (by omega)) (by simp only [AW4, simprocAttr]) ?_
    rintro rs o ⟨rfl, rfl⟩
    (try simp only [AW4, simprocAttr, hX]); (repeat (with_reducible refine And.intro ?_ ?_); exact vc0)
    (repeat (with_reducible refine And.intro ?_ ?_); exact vc0); refine hK _ ?_; clear hK K; refine Run.nq ?_
    refine Run.loopI (X := Nat) (fun i => ⟨43, [(0, true, .v (.sl false (.row false) c)), (6, true, .v .nils), (7, true, .v (.bool false)), (8, true, .v (.own 0 0)), (27, true, .v (.own 1 0)), (28, true, .v (.int .i64 (redL c b).length)), (29, true, .v (.int .i64 i))], [.arr .int (starW c (redL c a) ((redL c b).take i)) 0 true, .arr .int (redL c b) 0 true]⟩) (fun i => i ≤ (redL c b).length) (fun i => (redL c b).length - i) 0 (Nat.zero_le _) ?_ ?_
    · exact Le.sub (by rfl) (by simp only [AW4, simprocAttr, hX]; try simp)
    rintro i hi2 ih
    obtain ⟨hR, hR2, hR3⟩ := starW_Red hc ((redL c b).take i) (letters_take b1 i) hR0 (by simp; omega)
    refine Run.nq ?_; refine Run.regionW hC (fun K hK => ?_); simp only [AW4, simprocAttr, hX]; (repeat (with_reducible refine And.intro ?_ ?_); exact vc0); refine hK _ ?_; clear hK K; refine Run.nq ?_
    refine Run.nq ?_; refine Run.condW (by simp only [AW4, simprocAttr, hX]; rfl) (by simp only [AW4, simprocAttr, hX]) ?_ ?_
    · intro h
      have h : i < (redL c b).length := by simpa using h
      have hlet := letters_getD.1 b1 i h
      have hRl : (starW c (redL c a) ((redL c b).take i)).length ≤ 30 := by simp at hR2; omega
      have hsn : starW c (redL c a) ((redL c b).take (i + 1)) = starL c (starW c (redL c a) ((redL c b).take i)) ((redL c b).getD i 0) := by rw [← take_snoc 0 (redL c b) i h, starW_snoc]
      refine Run.nq ?_; refine Run.regionW hC (fun K hK => ?_); simp only [AW4, simprocAttr, hX]; (repeat (with_reducible refine And.intro ?_ ?_); exact vc0); refine hK _ ?_; clear hK K; refine Run.nq ?_
      refine Run.nq ?_; refine Run.regionW hC (fun K hK => ?_); simp only [AW4, simprocAttr, hX]; (repeat (with_reducible refine And.intro ?_ ?_); exact vc0)
      refine FunM.call hP hT (c_impl_starred c (starW c (redL c a) ((redL c b).take i)) ((redL c b).getD i 0) true hc hR hRl hlet) 0 0 (by simp only [AW4, simprocAttr]; rfl) (by simp) rfl (by simp only [AW4, simprocAttr]; try simp) ?_
      rintro rs o o2 (⟨rfl, h4, e⟩ | ⟨rfl, h4⟩)
      · obtain ⟨rfl, rfl⟩ := List.cons.inj h4
        (try simp only [AW4, simprocAttr, hX]); (repeat (with_reducible refine And.intro ?_ ?_); exact vc0)
        (repeat (with_reducible refine And.intro ?_ ?_); exact vc0); refine hK _ ?_; clear hK K; refine Run.nq ?_
        refine Run.nq ?_; refine Run.regionW hC (fun K hK => ?_); simp (disch := omega) only [wrap_id, AW4, simprocAttr, hX]; (repeat (with_reducible refine And.intro ?_ ?_); exact vc0); refine hK _ ?_; clear hK K; refine Run.nq ?_
        refine Run.le ?_ (ih (i + 1) h (by omega))
        exact Le.sub (by rw [hsn, e]) (by simp only [AW4, simprocAttr]; try simp)
      · obtain ⟨rfl, rfl⟩ := List.cons.inj h4
        (try simp only [AW4, simprocAttr, hX]); (repeat (with_reducible refine And.intro ?_ ?_); exact vc0)
        (repeat (with_reducible refine And.intro ?_ ?_); exact vc0); refine hK _ ?_; clear hK K; refine Run.nq ?_
        refine Run.le (Le.re (obs' := [.arr .int (starW c (redL c a) ((redL c b).take (i + 1))) 0 true, .arr .int (redL c b) 0 true]) hpin [2, 1] [(0, true, .sl false (.row false) c), (6, true, .nils), (7, true, .bool false), (8, true, .own 0 0), (27, true, .own 1 0), (28, true, .int .i64 (redL c b).length), (29, true, .int .i64 i)] rfl (by simp [leOs, leO_arr, oAt, hsn]) (by refine ⟨⟨_, rfl, ?_⟩, ⟨_, rfl, ?_⟩, ⟨_, rfl, ?_⟩, ⟨_, rfl, ?_⟩, ⟨_, rfl, ?_⟩, ⟨_, rfl, ?_⟩, ⟨_, rfl, ?_⟩, trivial⟩ <;> simp [leAV, oAt, genO, hsn])) ?_; simp only [frV_cons, frV_nil]
        refine Run.nq ?_; refine Run.regionW hC (fun K hK => ?_); simp (disch := omega) only [wrap_id, AW4, simprocAttr, hX]; (repeat (with_reducible refine And.intro ?_ ?_); exact vc0); refine hK _ ?_; clear hK K; refine Run.nq ?_
        refine Run.le ?_ (ih (i + 1) h (by omega))
        exact Le.sub (by rfl) (by simp only [AW4, simprocAttr]; try simp)
    · intro h
      have h : i = (redL c b).length := by simp at h; omega
      subst h
      rw [List.take_length]
      refine Run.exit rfl ?_; refine Run.nq ?_
      refine Run.nq ?_; refine Run.regionW hC (fun K hK => ?_); simp only [AW4, simprocAttr, hX]; (repeat (with_reducible refine And.intro ?_ ?_); exact vc0); refine hK _ ?_; clear hK K; refine Run.nq ?_
      refine Run.nq ?_; refine Run.condW (by simp only [AW4, simprocAttr, hX]; rfl) (by simp only [AW4, simprocAttr, hX]) ?_ ?_
      · intro h5
        have h5 : ¬ (starW c (redL c a) (redL c b)).length ≤ 15 := by simp at h5; omega
        refine Run.nq ?_; refine Run.regionW hC (fun K hK => ?_); simp only [AW4, simprocAttr, hX]; (repeat (with_reducible refine And.intro ?_ ?_); exact vc0); refine hK _ ?_; clear hK K; refine Run.nq ?_
        refine Run.le (Le.re (obs' := [.arr .int [] 0 true]) hpin [2] [(6, true, .own 0 0), (7, true, .bool false)] rfl (by simp [leOs, leO_arr, oAt]) (by refine ⟨⟨_, rfl, ?_⟩, ⟨_, rfl, ?_⟩, trivial⟩ <;> simp [leAV, oAt, genO])) ?_; simp only [frV_cons, frV_nil]
        refine Run.retW [6, 7] (by decide) (by rw [hfn]; rfl) (by simp only [AW4, simprocAttr, hX]; rfl) (by simp only [AW4, simprocAttr, hX]) (hfin _ _ rfl rfl ?_)
        simp [starPr, eb, h5]
      · intro h5
        have h5 : (starW c (redL c a) (redL c b)).length ≤ 15 := by simp at h5; omega
        refine Run.nq ?_; refine Run.regionW hC (fun K hK => ?_); simp only [AW4, simprocAttr, hX]; (repeat (with_reducible refine And.intro ?_ ?_); exact vc0); refine hK _ ?_; clear hK K; refine Run.nq ?_
        refine Run.le (Le.re (obs' := [.arr .int (starPr c a b) 0 true]) hpin [0] [(6, true, .own 0 0), (7, true, .bool true)] rfl (by simp [leOs, leO_arr, oAt, starPr, eb, h5]) (by refine ⟨⟨_, rfl, ?_⟩, ⟨_, rfl, ?_⟩, trivial⟩ <;> simp [leAV, oAt, genO, starPr, eb, h5])) ?_; simp only [frV_cons, frV_nil]
        refine Run.retW [6, 7] (by decide) (by rw [hfn]; rfl) (by simp only [AW4, simprocAttr, hX]; rfl) (by simp only [AW4, simprocAttr, hX]) (hfin _ _ rfl rfl ?_)
        simp [starPr, eb, h5]

/-- An element that is its own star square. -/
noncomputable def idpB (c : List (List Int)) (w : List Int) : Bool := wordB c w && (starW c (redL c w) (redL c w) == redL c w)

theorem c_spec_IsIdempotent (c : List (List Int)) (w : List Int) (hcl : c.length ≤ 1048576) :
    FunA B 37 [.sl false (.row false) c, .sl false .int w] (fun rs o => rs = [.bool (idpB c w)] ∧ o = []) := by
  refine FunA.walk B_ok (fn := Try.f37) (fun vs w => Try.call37 vs w) Try.func37 rfl (by rw [Try.ntmps37]; simp) (fun C hC hP hT hΓ hbt hfn hpin hfin => ?_); have hX := BX; rw [← hΓ, ← hbt] at hX; rw [Try.ntmps37]; simp only [AW4, simprocAttr, hX]
  refine Run.nq ?_; refine Run.regionW hC (fun K hK => ?_); simp only [AW4, simprocAttr, hX]; (repeat (with_reducible refine And.intro ?_ ?_); exact vc0); refine hK _ ?_; clear hK K; refine Run.nq ?_
  refine Run.nq ?_; refine Run.regionW hC (fun K hK => ?_); simp only [AW4, simprocAttr, hX]; (repeat (with_reducible refine And.intro ?_ ?_); exact vc0)
  refine FunA.callW hP hT (c_spec_NormalForm c w hcl) (by simp only [AW4, simprocAttr]) ?_
  rintro rs o ⟨rfl, rfl⟩
  (try simp only [AW4, simprocAttr, hX]); (repeat (with_reducible refine And.intro ?_ ?_); exact vc0)
  (repeat (with_reducible refine And.intro ?_ ?_); exact vc0); refine hK _ ?_; clear hK K; refine Run.nq ?_
  cases hw : wordB c w with
  | false =>
    refine Run.nq ?_; refine Run.regionW hC (fun K hK => ?_); simp only [AW4, simprocAttr, hX]; (repeat (with_reducible refine And.intro ?_ ?_); exact vc0)
    refine .inl (CallG.off .junk ?_)
    (try simp only [AW4, simprocAttr, hX]); (repeat (with_reducible refine And.intro ?_ ?_); exact vc0)
    refine .inl (CallG.off (.bool false) ?_)
    (try simp only [AW4, simprocAttr, hX]); (repeat (with_reducible refine And.intro ?_ ?_); exact vc0)
    (repeat (with_reducible refine And.intro ?_ ?_); exact vc0); refine hK _ ?_; clear hK K; refine Run.nq ?_
    refine Run.le (Le.cut0 hpin [_] (fr' := [(4, true, .v (.bool (idpB c w)))]) (obs' := []) rfl (by simp only [idpB, hw]; simp only [AW4, simprocAttr]; try simp) rfl) ?_
    refine Run.retW [4] (by decide) (by rw [hfn]; rfl) (by simp only [AW4, simprocAttr, hX]; rfl) (by simp only [AW4, simprocAttr, hX]) (hfin _ _ rfl rfl ?_)
    exact ⟨rfl, rfl⟩
  | true =>
    obtain ⟨hc, h2, h3⟩ := wordB_iff.1 hw
    have e1 : nfW c w = redL c w := by unfold nfW; rw [if_pos hw]
    rw [e1]
    obtain ⟨a1, a2, a3, a4, a5⟩ := red_spec hc h3 (by omega)
    have hR := red_Red hc h3 (by omega)
    have hlen := starW_len hc hR a1 (by omega)
    refine Run.nq ?_; refine Run.regionW hC (fun K hK => ?_); simp only [AW4, simprocAttr, hX]; (repeat (with_reducible refine And.intro ?_ ?_); exact vc0)
    refine .inr ⟨rfl, ?_⟩
    refine FunM.call hP hT (c_spec_l20Star2 c (redL c w) true hc hR a1 (by omega)) 0 0 (by simp only [AW4, simprocAttr]; rfl) (by simp) rfl (by simp only [AW4, simprocAttr]; try simp) ?_
    rintro rs o o2 (⟨rfl, h4, e⟩ | ⟨rfl, h4⟩)
    · obtain ⟨rfl, rfl⟩ := List.cons.inj h4
      (try simp only [AW4, simprocAttr, hX]); (repeat (with_reducible refine And.intro ?_ ?_); exact vc0)
      refine .inl (FunA.callG hP hT (c_spec_EqualWords (redL c w) (redL c w) (by omega)) (fun _ => rfl) (fun _ => by simp only [AW4, simprocAttr]) ?_)
      (try simp only [AW4, simprocAttr, hX]); (repeat (with_reducible refine And.intro ?_ ?_); exact vc0)
      (repeat (with_reducible refine And.intro ?_ ?_); exact vc0); refine hK _ ?_; clear hK K; refine Run.nq ?_
      refine Run.le (Le.cut0 hpin [_] (fr' := [(4, true, .v (.bool (idpB c w)))]) (obs' := []) rfl (by simp only [idpB, hw, e]; simp only [AW4, simprocAttr]; try simp) rfl) ?_
      refine Run.retW [4] (by decide) (by rw [hfn]; rfl) (by simp only [AW4, simprocAttr, hX]; rfl) (by simp only [AW4, simprocAttr, hX]) (hfin _ _ rfl rfl ?_)
      exact ⟨rfl, rfl⟩
    · obtain ⟨rfl, rfl⟩ := List.cons.inj h4
      (try simp only [AW4, simprocAttr, hX]); (repeat (with_reducible refine And.intro ?_ ?_); exact vc0)
      refine .inl (FunA.callG hP hT (c_spec_EqualWords (starW c (redL c w) (redL c w)) (redL c w) (by omega)) (fun _ => rfl) (fun _ => by simp only [AW4, simprocAttr]) ?_)
      (try simp only [AW4, simprocAttr, hX]); (repeat (with_reducible refine And.intro ?_ ?_); exact vc0)
      (repeat (with_reducible refine And.intro ?_ ?_); exact vc0); refine hK _ ?_; clear hK K; refine Run.nq ?_
      refine Run.le (Le.cut0 hpin [_, _] (fr' := [(4, true, .v (.bool (idpB c w)))]) (obs' := []) rfl (by simp only [idpB, hw]; simp only [AW4, simprocAttr]; try simp) rfl) ?_
      refine Run.retW [4] (by decide) (by rw [hfn]; rfl) (by simp only [AW4, simprocAttr, hX]; rfl) (by simp only [AW4, simprocAttr, hX]) (hfin _ _ rfl rfl ?_)
      exact ⟨rfl, rfl⟩

theorem c_impl_IsIdempotent (c : List (List Int)) (w : List Int) (hcl : c.length ≤ 1048576) :
    FunA B 38 [.sl false (.row false) c, .sl false .int w] (fun rs o => rs = [.bool (idpB c w)] ∧ o = []) := by
  refine FunA.walk B_ok (fn := Try.f38) (fun vs w => Try.call38 vs w) Try.func38 rfl (by rw [Try.ntmps38]; simp) (fun C hC hP hT hΓ hbt hfn hpin hfin => ?_); have hX := BX; rw [← hΓ, ← hbt] at hX; rw [Try.ntmps38]; simp only [AW4, simprocAttr, hX]
  refine Run.nq ?_; refine Run.regionW hC (fun K hK => ?_); simp only [AW4, simprocAttr, hX]; (repeat (with_reducible refine And.intro ?_ ?_); exact vc0); refine hK _ ?_; clear hK K; refine Run.nq ?_
  refine Run.nq ?_; refine Run.regionW hC (fun K hK => ?_); simp only [AW4, simprocAttr, hX]; (repeat (with_reducible refine And.intro ?_ ?_); exact vc0)
  refine FunA.callW hP hT (c_impl_StarProduct c w w hcl) (by simp only [AW4, simprocAttr]) ?_
  rintro rs o ⟨rfl, rfl⟩
  (try simp only [AW4, simprocAttr, hX]); (repeat (with_reducible refine And.intro ?_ ?_); exact vc0)
  (repeat (with_reducible refine And.intro ?_ ?_); exact vc0); refine hK _ ?_; clear hK K; refine Run.nq ?_
  have hle := starPr_le c w w
  cases hs : starPrB c w w with
  | false =>
    have hid : idpB c w = false := by
      cases hw : wordB c w with
      | false => simp [idpB, hw]
      | true =>
        obtain ⟨hc, h2, h3⟩ := wordB_iff.1 hw
        obtain ⟨a1, a2, _⟩ := red_spec hc h3 (by omega)
        simp [starPrB, hw] at hs
        simp only [idpB, hw, Bool.true_and]
        cases hh : (starW c (redL c w) (redL c w) == redL c w) with
        | false => rfl
        | true =>
          have := eq_of_beq hh
          rw [this] at hs
          omega
    refine Run.nq ?_; refine Run.regionW hC (fun K hK => ?_); simp only [AW4, simprocAttr, hX]; (repeat (with_reducible refine And.intro ?_ ?_); exact vc0)
    refine .inl (CallG.off .junk ?_)
    (try simp only [AW4, simprocAttr, hX]); (repeat (with_reducible refine And.intro ?_ ?_); exact vc0)
    refine .inl (CallG.off (.bool false) ?_)
    (try simp only [AW4, simprocAttr, hX]); (repeat (with_reducible refine And.intro ?_ ?_); exact vc0)
    (repeat (with_reducible refine And.intro ?_ ?_); exact vc0); refine hK _ ?_; clear hK K; refine Run.nq ?_
    refine Run.le (Le.cut0 hpin [_] (fr' := [(4, true, .v (.bool (idpB c w)))]) (obs' := []) rfl (by simp only [hid]; simp only [AW4, simprocAttr]; try simp) rfl) ?_
    refine Run.retW [4] (by decide) (by rw [hfn]; rfl) (by simp only [AW4, simprocAttr, hX]; rfl) (by simp only [AW4, simprocAttr, hX]) (hfin _ _ rfl rfl ?_)
    exact ⟨rfl, rfl⟩
  | true =>
    have hw : wordB c w = true := by
      revert hs
      cases hw : wordB c w <;> simp [starPrB, hw]
    obtain ⟨hc, h2, h3⟩ := wordB_iff.1 hw
    have e1 : starPr c w w = starW c (redL c w) (redL c w) := by unfold starPr; rw [if_pos hs]
    rw [e1] at hle ⊢
    refine Run.nq ?_; refine Run.regionW hC (fun K hK => ?_); simp only [AW4, simprocAttr, hX]; (repeat (with_reducible refine And.intro ?_ ?_); exact vc0)
    refine .inl (FunA.callG hP hT (FunA.frozen rfl (c_impl_reduced c w hc h3 (by omega))) (fun _ => rfl) (fun _ => by simp only [AW4, simprocAttr]) ?_)
    (try simp only [AW4, simprocAttr, hX]); (repeat (with_reducible refine And.intro ?_ ?_); exact vc0)
    refine .inl (FunA.callG hP hT (c_impl_EqualWords (starW c (redL c w) (redL c w)) (redL c w) (by omega)) (fun _ => rfl) (fun _ => by simp only [AW4, simprocAttr]) ?_)
    (try simp only [AW4, simprocAttr, hX]); (repeat (with_reducible refine And.intro ?_ ?_); exact vc0)
    (repeat (with_reducible refine And.intro ?_ ?_); exact vc0); refine hK _ ?_; clear hK K; refine Run.nq ?_
    refine Run.le (Le.cut0 hpin [_] (fr' := [(4, true, .v (.bool (idpB c w)))]) (obs' := []) rfl (by simp only [idpB, hw]; simp only [AW4, simprocAttr]; try simp) rfl) ?_
    refine Run.retW [4] (by decide) (by rw [hfn]; rfl) (by simp only [AW4, simprocAttr, hX]; rfl) (by simp only [AW4, simprocAttr, hX]) (hfin _ _ rfl rfl ?_)
    exact ⟨rfl, rfl⟩
end Go.Proofs.Ytbeeblhmgpgkjaa

/- Star products: what the functions of both sides do. -/
import Derived.Test.YtbeeblhmgpgkjaaGrow2
set_option linter.unusedVariables false
set_option linter.unusedSimpArgs false
namespace Go.Proofs.Ytbeeblhmgpgkjaa
open Go Go.Aw Go.Cox

theorem pin1 {C : Ctx} (h : C.pin.length = 1) {π : List Nat} {obs obs' : List O} (h1 : π[0]? = some 0) (h2 : genOf obs' 0 = genOf obs 0) : ∀ j, j < C.pin.length → π[j]? = some j ∧ genOf obs' j = genOf obs j := by
  intro j hj
  rw [h] at hj
  have : j = 0 := by omega
  subst this
  exact ⟨h1, h2⟩

theorem c_impl_starred (c : List (List Int)) (out : List Int) (i : Int) (nn : Bool) (hc : CartanP c) (ho : Red c out) (hl : out.length ≤ 30) (hi : 0 ≤ i ∧ i < c.length) :
    FunM B 61 [.sl false (.row false) c, .own 0 0, .int .i64 i] .int out nn (fun rs o => (rs = [.own 0 0] ∧ o = [.arr .int out 0 nn] ∧ starL c out i = out) ∨ (rs = [.own 1 0] ∧ o = [.arr .int out 0 nn, .arr .int (starL c out i) 0 true])) := by
  have hlet : letters c.length (out ++ [i]) := letters_append.2 ⟨ho.1, by simpa [letters] using hi⟩
  obtain ⟨s1, s2, s3⟩ := star_snoc hc ho hl hi
  refine FunM.walk B_ok (fn := Try.f61) (fun vs w => Try.call61 vs w) Try.func61 rfl (by rw [Try.ntmps61]; simp) (fun C hC hP hT hΓ hbt hfn hpin hfin => ?_); have hX := BX; rw [← hΓ, ← hbt] at hX; rw [Try.ntmps61]; simp only [AW4, simprocAttr, hX]
  refine Run.nq ?_; refine Run.regionW hC (fun K hK => ?_); simp only [AW4, simprocAttr, hX]; (repeat (with_reducible refine And.intro ?_ ?_); exact vc0); refine hK _ ?_; clear hK K; refine Run.nq ?_
  refine Run.nq ?_; refine Run.regionW hC (fun K hK => ?_); simp only [AW4, simprocAttr, hX]; (repeat (with_reducible refine And.intro ?_ ?_); exact vc0)
  refine FunA.callW hP hT (c_slices_Clone out (by omega)) (by simp only [AW4, simprocAttr]) ?_
  rintro rs o ⟨n2, rfl, rfl⟩
  (try simp only [AW4, simprocAttr, hX]); (repeat (with_reducible refine And.intro ?_ ?_); exact vc0)
  refine FunA.callW hP hT (c_impl_reduced c (out ++ [i]) hc hlet (by simp; omega)) (by simp only [AW4, simprocAttr]) ?_
  rintro rs o ⟨rfl, rfl⟩
  (try simp only [AW4, simprocAttr, hX]); (repeat (with_reducible refine And.intro ?_ ?_); exact vc0)
  (repeat (with_reducible refine And.intro ?_ ?_); exact vc0); refine hK _ ?_; clear hK K; refine Run.nq ?_
  refine Run.nq ?_; refine Run.regionW hC (fun K hK => ?_); simp only [AW4, simprocAttr, hX]; (repeat (with_reducible refine And.intro ?_ ?_); exact vc0); refine hK _ ?_; clear hK K; refine Run.nq ?_
  refine Run.nq ?_; refine Run.condW (by simp only [AW4, simprocAttr, hX]; rfl) (by simp only [AW4, simprocAttr, hX]) ?_ ?_
  · intro h
    have h : (redL c (out ++ [i])).length < out.length := by simpa using h
    refine Run.nq ?_; refine Run.regionW hC (fun K hK => ?_); simp only [AW4, simprocAttr, hX]; (repeat (with_reducible refine And.intro ?_ ?_); exact vc0); refine hK _ ?_; clear hK K; refine Run.nq ?_
    refine Run.le (Le.reP (obs' := [.arr .int out 0 nn]) [0] [(6, true, .own 0 0)] (pin1 hpin rfl rfl) rfl (by simp [leOs, leO_arr, oAt]) (by refine ⟨⟨_, rfl, ?_⟩, trivial⟩; simp [leAV, oAt, genO])) ?_
    simp only [frV_cons, frV_nil]
    refine Run.retW [6] (by decide) (by rw [hfn]; rfl) (by simp only [AW4, simprocAttr, hX]; rfl) (by simp only [AW4, simprocAttr, hX]) (hfin _ _ _ rfl rfl rfl ?_)
    exact .inl ⟨rfl, rfl, by unfold starL; rw [if_pos h]⟩
  · intro h
    have h : ¬ (redL c (out ++ [i])).length < out.length := by simpa using h
    refine Run.nq ?_; refine Run.regionW hC (fun K hK => ?_); simp only [AW4, simprocAttr, hX]; (repeat (with_reducible refine And.intro ?_ ?_); exact vc0); refine hK _ ?_; clear hK K; refine Run.nq ?_
    refine Run.le (Le.reP (obs' := [.arr .int out 0 nn, .arr .int (redL c (out ++ [i])) 0 true]) [0, 3] [(6, true, .own 1 0)] (pin1 hpin rfl rfl) rfl (by simp [leOs, leO_arr, oAt]) (by refine ⟨⟨_, rfl, ?_⟩, trivial⟩; simp [leAV, oAt, genO])) ?_
    simp only [frV_cons, frV_nil]
    refine Run.retW [6] (by decide) (by rw [hfn]; rfl) (by simp only [AW4, simprocAttr, hX]; rfl) (by simp only [AW4, simprocAttr, hX]) (hfin _ _ _ rfl rfl rfl ?_)
    exact .inr ⟨rfl, by unfold starL; rw [if_neg h]⟩

theorem c_spec_l20Star (c : List (List Int)) (out w : List Int) (nn : Bool) (hc : CartanP c) (ho : Red c out) (hw : letters c.length w) (hl : out.length + w.length ≤ 31) :
    FunM B 60 [.sl false (.row false) c, .own 0 0, .sl false .int w] .int out nn (fun rs o => (rs = [.own 0 0] ∧ o = [.arr .int out 0 nn] ∧ starW c out w = out) ∨ (rs = [.own 1 0] ∧ o = [.arr .int out 0 nn, .arr .int (starW c out w) 0 true])) := by
  refine FunM.walk B_ok (fn := Try.f60) (fun vs w => Try.call60 vs w) Try.func60 rfl (by rw [Try.ntmps60]; simp) (fun C hC hP hT hΓ hbt hfn hpin hfin => ?_); have hX := BX; rw [← hΓ, ← hbt] at hX; rw [Try.ntmps60]; simp only [AW4, simprocAttr, hX]
  refine Run.nq ?_; refine Run.regionW hC (fun K hK => ?_); simp only [AW4, simprocAttr, hX]; (repeat (with_reducible refine And.intro ?_ ?_); exact vc0); refine hK _ ?_; clear hK K; refine Run.nq ?_
  refine Run.nq ?_; refine Run.regionW hC (fun K hK => ?_); simp only [AW4, simprocAttr, hX]; (repeat (with_reducible refine And.intro ?_ ?_); exact vc0); refine hK _ ?_; clear hK K; refine Run.nq ?_
  refine Run.loopI (X := Nat × Bool) (fun x => ⟨31, [(0, true, .v (.sl false (.row false) c)), (1, true, .v (.own (if x.2 then 1 else 0) 0)), (2, true, .v (.sl false .int w)), (6, true, .v .nils), (7, true, .v (.int .i64 x.1))], .arr .int out 0 nn :: (if x.2 then [.arr .int (starW c out (w.take x.1)) 0 true] else [])⟩) (fun x => x.1 ≤ w.length ∧ (x.2 = false → starW c out (w.take x.1) = out)) (fun x => w.length - x.1) (0, false) ⟨Nat.zero_le _, fun _ => rfl⟩ ?_ ?_
  · exact Le.sub (by rfl) (by simp only [AW4, simprocAttr, hX]; try simp)
  rintro ⟨i, b⟩ ⟨hi, hcur⟩ ih
  obtain ⟨hR, hR2, hR3⟩ := starW_Red hc (w.take i) (letters_take hw i) ho (by simp; omega)
  have hRl : (starW c out (w.take i)).length ≤ 31 := by simp at hR2; omega
  simp only [] at hi hcur ⊢
  cases b with
  | false =>
    have hcur := hcur rfl
    simp only [Bool.false_eq_true, if_false]
    rw [hcur] at hR hRl hR2
    have hRl : i < w.length → out.length ≤ 30 := by intro h; simp at hR2; omega
    by_cases hiw : i < w.length
    case neg =>
      have hiw : i = w.length := by omega
      subst hiw
      refine Run.nq ?_; refine Run.regionW hC (fun K hK => ?_); simp only [AW4, simprocAttr, hX]; (repeat (with_reducible refine And.intro ?_ ?_); exact vc0); refine hK _ ?_; clear hK K; refine Run.nq ?_
      refine Run.nq ?_; refine Run.condW (by simp only [AW4, simprocAttr, hX]; rfl) (by simp only [AW4, simprocAttr, hX]) ?_ ?_
      · intro h; simp at h
      · intro _
        rw [List.take_length] at hcur
        refine Run.exit rfl ?_; refine Run.nq ?_
        refine Run.nq ?_; refine Run.regionW hC (fun K hK => ?_); simp only [AW4, simprocAttr, hX]; (repeat (with_reducible refine And.intro ?_ ?_); exact vc0); refine hK _ ?_; clear hK K; refine Run.nq ?_
        refine Run.le (Le.reP (obs' := [.arr .int out 0 nn]) [0] [(6, true, .own 0 0)] (pin1 hpin rfl rfl) rfl (by simp [leOs, leO_arr, oAt]) (by refine ⟨⟨_, rfl, ?_⟩, trivial⟩; simp [leAV, oAt, genO])) ?_
        simp only [frV_cons, frV_nil]
        refine Run.retW [6] (by decide) (by rw [hfn]; rfl) (by simp only [AW4, simprocAttr, hX]; rfl) (by simp only [AW4, simprocAttr, hX]) (hfin _ _ _ rfl rfl rfl ?_)
        exact .inl ⟨rfl, rfl, hcur⟩
    have hRl := hRl hiw
    refine Run.nq ?_; refine Run.regionW hC (fun K hK => ?_); simp only [AW4, simprocAttr, hX]; (repeat (with_reducible refine And.intro ?_ ?_); exact vc0); refine hK _ ?_; clear hK K; refine Run.nq ?_
    refine Run.nq ?_; refine Run.condW (by simp only [AW4, simprocAttr, hX]; rfl) (by simp only [AW4, simprocAttr, hX]) ?_ ?_
    · intro h
      have h : i < w.length := by simpa using h
      have hlet := letters_getD.1 hw i h
      have hsn : starW c out (w.take (i + 1)) = starL c out (w.getD i 0) := by rw [← take_snoc 0 w i h, starW_snoc, hcur]
      have hss := starS_eq hc hR hRl hlet
      rw [← hss] at hsn
      have hle2 : letters c.length (out ++ [w.getD i 0]) := letters_append.2 ⟨hR.1, by simpa [letters] using hlet⟩
      refine Run.nq ?_; refine Run.regionW hC (fun K hK => ?_); simp only [AW4, simprocAttr, hX]; (repeat (with_reducible refine And.intro ?_ ?_); exact vc0)
      refine FunA.callW hP hT (c_spec_ConcatWords out [w.getD i 0] (by omega) (by simp)) (by simp only [AW4, simprocAttr]) ?_
      rintro rs o ⟨rfl, rfl⟩
      (try simp only [AW4, simprocAttr, hX]); (repeat (with_reducible refine And.intro ?_ ?_); exact vc0)
      refine FunA.callW hP hT (c_spec_l8Normal c (out ++ [w.getD i 0]) hc hle2 (by simp; omega)) (by simp only [AW4, simprocAttr]) ?_
      rintro rs o ⟨rfl, rfl⟩
      (try simp only [AW4, simprocAttr, hX]); (repeat (with_reducible refine And.intro ?_ ?_); exact vc0)
      (repeat (with_reducible refine And.intro ?_ ?_); exact vc0); refine hK _ ?_; clear hK K; refine Run.nq ?_
      refine Run.nq ?_; refine Run.regionW hC (fun K hK => ?_); simp only [AW4, simprocAttr, hX]; (repeat (with_reducible refine And.intro ?_ ?_); exact vc0); refine hK _ ?_; clear hK K; refine Run.nq ?_
      refine Run.nq ?_; refine Run.condW (by simp only [AW4, simprocAttr, hX]; rfl) (by simp only [AW4, simprocAttr, hX]) ?_ ?_
      · intro h2
        have h2 : (out).length < (redL c (out ++ [w.getD i 0])).length := by simpa using h2
        have e : starS c out (w.getD i 0) = redL c (out ++ [w.getD i 0]) := by unfold starS; rw [if_pos h2]
        refine Run.nq ?_; refine Run.regionW hC (fun K hK => ?_); simp (disch := omega) only [wrap_id, AW4, simprocAttr, hX]; (repeat (with_reducible refine And.intro ?_ ?_); exact vc0); refine hK _ ?_; clear hK K; refine Run.nq ?_
        refine Run.le (Le.reP (obs' := [.arr .int out 0 nn, .arr .int (redL c (out ++ [w.getD i 0])) 0 true]) [0, 3] [(0, true, .sl false (.row false) c), (1, true, .own 1 0), (2, true, .sl false .int w), (6, true, .nils), (7, true, .int .i64 i)] (pin1 hpin rfl rfl) rfl (by simp [leOs, leO_arr, oAt]) (by refine ⟨⟨_, rfl, ?_⟩, ⟨_, rfl, ?_⟩, ⟨_, rfl, ?_⟩, ⟨_, rfl, ?_⟩, ⟨_, rfl, ?_⟩, trivial⟩ <;> simp [leAV, oAt, genO])) ?_
        simp only [frV_cons, frV_nil]
        rw [← e, ← hsn]
        refine Run.nq ?_; refine Run.regionW hC (fun K hK => ?_); simp (disch := omega) only [wrap_id, AW4, simprocAttr, hX]; (repeat (with_reducible refine And.intro ?_ ?_); exact vc0); refine hK _ ?_; clear hK K; refine Run.nq ?_
        refine Run.le ?_ (ih (i + 1, true) ⟨h, fun k => by cases k⟩ (by simp only []; omega))
        exact Le.sub (by rfl) (by simp only [AW4, simprocAttr]; try simp)
      · intro h2
        have h2 : ¬ (out).length < (redL c (out ++ [w.getD i 0])).length := by simpa using h2
        have e : starS c out (w.getD i 0) = out := by unfold starS; rw [if_neg h2]
        refine Run.le (Le.reP (obs' := [.arr .int out 0 nn]) [0] [(0, true, .sl false (.row false) c), (1, true, .own 0 0), (2, true, .sl false .int w), (6, true, .nils), (7, true, .int .i64 i)] (pin1 hpin rfl rfl) rfl (by simp [leOs, leO_arr, oAt]) (by refine ⟨⟨_, rfl, ?_⟩, ⟨_, rfl, ?_⟩, ⟨_, rfl, ?_⟩, ⟨_, rfl, ?_⟩, ⟨_, rfl, ?_⟩, trivial⟩ <;> simp [leAV, oAt, genO])) ?_
        simp only [frV_cons, frV_nil]
        have hsn2 : starW c out (w.take (i + 1)) = out := by rw [hsn, e]
        refine Run.nq ?_; refine Run.regionW hC (fun K hK => ?_); simp (disch := omega) only [wrap_id, AW4, simprocAttr, hX]; (repeat (with_reducible refine And.intro ?_ ?_); exact vc0); refine hK _ ?_; clear hK K; refine Run.nq ?_
        refine Run.le ?_ (ih (i + 1, false) ⟨h, fun _ => hsn2⟩ (by simp only []; omega))
        exact Le.sub (by rfl) (by simp only [AW4, simprocAttr]; try simp)
    · intro h
      simp at h; omega
  | true =>
    simp only [if_true]
    by_cases hiw : i < w.length
    case neg =>
      have hiw : i = w.length := by omega
      subst hiw
      refine Run.nq ?_; refine Run.regionW hC (fun K hK => ?_); simp only [AW4, simprocAttr, hX]; (repeat (with_reducible refine And.intro ?_ ?_); exact vc0); refine hK _ ?_; clear hK K; refine Run.nq ?_
      refine Run.nq ?_; refine Run.condW (by simp only [AW4, simprocAttr, hX]; rfl) (by simp only [AW4, simprocAttr, hX]) ?_ ?_
      · intro h; simp at h
      · intro _
        rw [List.take_length]
        refine Run.exit rfl ?_; refine Run.nq ?_
        refine Run.nq ?_; refine Run.regionW hC (fun K hK => ?_); simp only [AW4, simprocAttr, hX]; (repeat (with_reducible refine And.intro ?_ ?_); exact vc0); refine hK _ ?_; clear hK K; refine Run.nq ?_
        refine Run.le (Le.reP (obs' := [.arr .int out 0 nn, .arr .int (starW c out w) 0 true]) [0, 1] [(6, true, .own 1 0)] (pin1 hpin rfl rfl) rfl (by simp [leOs, leO_arr, oAt]) (by refine ⟨⟨_, rfl, ?_⟩, trivial⟩; simp [leAV, oAt, genO])) ?_
        simp only [frV_cons, frV_nil]
        refine Run.retW [6] (by decide) (by rw [hfn]; rfl) (by simp only [AW4, simprocAttr, hX]; rfl) (by simp only [AW4, simprocAttr, hX]) (hfin _ _ _ rfl rfl rfl ?_)
        exact .inr ⟨rfl, rfl⟩
    have hRl : (starW c out (w.take i)).length ≤ 30 := by simp at hR2; omega
    refine Run.nq ?_; refine Run.regionW hC (fun K hK => ?_); simp only [AW4, simprocAttr, hX]; (repeat (with_reducible refine And.intro ?_ ?_); exact vc0); refine hK _ ?_; clear hK K; refine Run.nq ?_
    refine Run.nq ?_; refine Run.condW (by simp only [AW4, simprocAttr, hX]; rfl) (by simp only [AW4, simprocAttr, hX]) ?_ ?_
    · intro h
      have h : i < w.length := by simpa using h
      have hlet := letters_getD.1 hw i h
      have hsn : starW c out (w.take (i + 1)) = starL c (starW c out (w.take i)) (w.getD i 0) := by rw [← take_snoc 0 w i h, starW_snoc]
      have hss := starS_eq hc hR hRl hlet
      rw [← hss] at hsn
      have hle2 : letters c.length ((starW c out (w.take i)) ++ [w.getD i 0]) := letters_append.2 ⟨hR.1, by simpa [letters] using hlet⟩
      refine Run.nq ?_; refine Run.regionW hC (fun K hK => ?_); simp only [AW4, simprocAttr, hX]; (repeat (with_reducible refine And.intro ?_ ?_); exact vc0)
      refine FunA.callW hP hT (c_spec_ConcatWords (starW c out (w.take i)) [w.getD i 0] (by omega) (by simp)) (by simp only [AW4, simprocAttr]) ?_
      rintro rs o ⟨rfl, rfl⟩
      (try simp only [AW4, simprocAttr, hX]); (repeat (with_reducible refine And.intro ?_ ?_); exact vc0)
      refine FunA.callW hP hT (c_spec_l8Normal c ((starW c out (w.take i)) ++ [w.getD i 0]) hc hle2 (by simp; omega)) (by simp only [AW4, simprocAttr]) ?_
      rintro rs o ⟨rfl, rfl⟩
      (try simp only [AW4, simprocAttr, hX]); (repeat (with_reducible refine And.intro ?_ ?_); exact vc0)
      (repeat (with_reducible refine And.intro ?_ ?_); exact vc0); refine hK _ ?_; clear hK K; refine Run.nq ?_
      refine Run.nq ?_; refine Run.regionW hC (fun K hK => ?_); simp only [AW4, simprocAttr, hX]; (repeat (with_reducible refine And.intro ?_ ?_); exact vc0); refine hK _ ?_; clear hK K; refine Run.nq ?_
      refine Run.nq ?_; refine Run.condW (by simp only [AW4, simprocAttr, hX]; rfl) (by simp only [AW4, simprocAttr, hX]) ?_ ?_
      · intro h2
        have h2 : ((starW c out (w.take i))).length < (redL c ((starW c out (w.take i)) ++ [w.getD i 0])).length := by simpa using h2
        have e : starS c (starW c out (w.take i)) (w.getD i 0) = redL c ((starW c out (w.take i)) ++ [w.getD i 0]) := by unfold starS; rw [if_pos h2]
        refine Run.nq ?_; refine Run.regionW hC (fun K hK => ?_); simp (disch := omega) only [wrap_id, AW4, simprocAttr, hX]; (repeat (with_reducible refine And.intro ?_ ?_); exact vc0); refine hK _ ?_; clear hK K; refine Run.nq ?_
        refine Run.le (Le.reP (obs' := [.arr .int out 0 nn, .arr .int (redL c ((starW c out (w.take i)) ++ [w.getD i 0])) 0 true]) [0, 4] [(0, true, .sl false (.row false) c), (1, true, .own 1 0), (2, true, .sl false .int w), (6, true, .nils), (7, true, .int .i64 i)] (pin1 hpin rfl rfl) rfl (by simp [leOs, leO_arr, oAt]) (by refine ⟨⟨_, rfl, ?_⟩, ⟨_, rfl, ?_⟩, ⟨_, rfl, ?_⟩, ⟨_, rfl, ?_⟩, ⟨_, rfl, ?_⟩, trivial⟩ <;> simp [leAV, oAt, genO])) ?_
        simp only [frV_cons, frV_nil]
        rw [← e, ← hsn]
        refine Run.nq ?_; refine Run.regionW hC (fun K hK => ?_); simp (disch := omega) only [wrap_id, AW4, simprocAttr, hX]; (repeat (with_reducible refine And.intro ?_ ?_); exact vc0); refine hK _ ?_; clear hK K; refine Run.nq ?_
        refine Run.le ?_ (ih (i + 1, true) ⟨h, fun k => by cases k⟩ (by simp only []; omega))
        exact Le.sub (by rfl) (by simp only [AW4, simprocAttr]; try simp)
      · intro h2
        have h2 : ¬ ((starW c out (w.take i))).length < (redL c ((starW c out (w.take i)) ++ [w.getD i 0])).length := by simpa using h2
        have e : starS c (starW c out (w.take i)) (w.getD i 0) = (starW c out (w.take i)) := by unfold starS; rw [if_neg h2]
        refine Run.le (Le.reP (obs' := [.arr .int out 0 nn, .arr .int (starW c out (w.take i)) 0 true]) [0, 1] [(0, true, .sl false (.row false) c), (1, true, .own 1 0), (2, true, .sl false .int w), (6, true, .nils), (7, true, .int .i64 i)] (pin1 hpin rfl rfl) rfl (by simp [leOs, leO_arr, oAt]) (by refine ⟨⟨_, rfl, ?_⟩, ⟨_, rfl, ?_⟩, ⟨_, rfl, ?_⟩, ⟨_, rfl, ?_⟩, ⟨_, rfl, ?_⟩, trivial⟩ <;> simp [leAV, oAt, genO])) ?_
        simp only [frV_cons, frV_nil]
        rw [← e, ← hsn]
        refine Run.nq ?_; refine Run.regionW hC (fun K hK => ?_); simp (disch := omega) only [wrap_id, AW4, simprocAttr, hX]; (repeat (with_reducible refine And.intro ?_ ?_); exact vc0); refine hK _ ?_; clear hK K; refine Run.nq ?_
        refine Run.le ?_ (ih (i + 1, true) ⟨h, fun k => by cases k⟩ (by simp only []; omega))
        exact Le.sub (by rfl) (by simp only [AW4, simprocAttr]; try simp)
    · intro h
      simp at h; omega

theorem c_spec_l20Star2 (c : List (List Int)) (w : List Int) (nn : Bool) (hc : CartanP c) (ho : Red c w) (hw : letters c.length w) (hl : w.length + w.length ≤ 31) :
    FunM B 60 [.sl false (.row false) c, .own 0 0, .own 0 0] .int w nn (fun rs o => (rs = [.own 0 0] ∧ o = [.arr .int w 0 nn] ∧ starW c w w = w) ∨ (rs = [.own 1 0] ∧ o = [.arr .int w 0 nn, .arr .int (starW c w w) 0 true])) := by
  refine FunM.walk B_ok (fn := Try.f60) (fun vs w => Try.call60 vs w) Try.func60 rfl (by rw [Try.ntmps60]; simp) (fun C hC hP hT hΓ hbt hfn hpin hfin => ?_); have hX := BX; rw [← hΓ, ← hbt] at hX; rw [Try.ntmps60]; simp only [AW4, simprocAttr, hX]
  refine Run.nq ?_; refine Run.regionW hC (fun K hK => ?_); simp only [AW4, simprocAttr, hX]; (repeat (with_reducible refine And.intro ?_ ?_); exact vc0); refine hK _ ?_; clear hK K; refine Run.nq ?_
  refine Run.nq ?_; refine Run.regionW hC (fun K hK => ?_); simp only [AW4, simprocAttr, hX]; (repeat (with_reducible refine And.intro ?_ ?_); exact vc0); refine hK _ ?_; clear hK K; refine Run.nq ?_
  refine Run.loopI (X := Nat × Bool) (fun x => ⟨31, [(0, true, .v (.sl false (.row false) c)), (1, true, .v (.own (if x.2 then 1 else 0) 0)), (2, true, .v (.own 0 0)), (6, true, .v .nils), (7, true, .v (.int .i64 x.1))], .arr .int w 0 nn :: (if x.2 then [.arr .int (starW c w (w.take x.1)) 0 true] else [])⟩) (fun x => x.1 ≤ w.length ∧ (x.2 = false → starW c w (w.take x.1) = w)) (fun x => w.length - x.1) (0, false) ⟨Nat.zero_le _, fun _ => rfl⟩ ?_ ?_
  · exact Le.sub (by rfl) (by simp only [AW4, simprocAttr, hX]; try simp)
  rintro ⟨i, b⟩ ⟨hi, hcur⟩ ih
  obtain ⟨hR, hR2, hR3⟩ := starW_Red hc (w.take i) (letters_take hw i) ho (by simp; omega)
  have hRl : (starW c w (w.take i)).length ≤ 31 := by simp at hR2; omega
  simp only [] at hi hcur ⊢
  cases b with
  | false =>
    have hcur := hcur rfl
    simp only [Bool.false_eq_true, if_false]
    rw [hcur] at hR hRl hR2
    have hRl : i < w.length → w.length ≤ 30 := by intro h; simp at hR2; omega
    by_cases hiw : i < w.length
    case neg =>
      have hiw : i = w.length := by omega
      subst hiw
      refine Run.nq ?_; refine Run.regionW hC (fun K hK => ?_); simp only [AW4, simprocAttr, hX]; (repeat (with_reducible refine And.intro ?_ ?_); exact vc0); refine hK _ ?_; clear hK K; refine Run.nq ?_
      refine Run.nq ?_; refine Run.condW (by simp only [AW4, simprocAttr, hX]; rfl) (by simp only [AW4, simprocAttr, hX]) ?_ ?_
      · intro h; simp at h
      · intro _
        rw [List.take_length] at hcur
        refine Run.exit rfl ?_; refine Run.nq ?_
        refine Run.nq ?_; refine Run.regionW hC (fun K hK => ?_); simp only [AW4, simprocAttr, hX]; (repeat (with_reducible refine And.intro ?_ ?_); exact vc0); refine hK _ ?_; clear hK K; refine Run.nq ?_
        refine Run.le (Le.reP (obs' := [.arr .int w 0 nn]) [0] [(6, true, .own 0 0)] (pin1 hpin rfl rfl) rfl (by simp [leOs, leO_arr, oAt]) (by refine ⟨⟨_, rfl, ?_⟩, trivial⟩; simp [leAV, oAt, genO])) ?_
        simp only [frV_cons, frV_nil]
        refine Run.retW [6] (by decide) (by rw [hfn]; rfl) (by simp only [AW4, simprocAttr, hX]; rfl) (by simp only [AW4, simprocAttr, hX]) (hfin _ _ _ rfl rfl rfl ?_)
        exact .inl ⟨rfl, rfl, hcur⟩
    have hRl := hRl hiw
    refine Run.nq ?_; refine Run.regionW hC (fun K hK => ?_); simp only [AW4, simprocAttr, hX]; (repeat (with_reducible refine And.intro ?_ ?_); exact vc0); refine hK _ ?_; clear hK K; refine Run.nq ?_
    refine Run.nq ?_; refine Run.condW (by simp only [AW4, simprocAttr, hX]; rfl) (by simp only [AW4, simprocAttr, hX]) ?_ ?_
    · intro h
      have h : i < w.length := by simpa using h
      have hlet := letters_getD.1 hw i h
      have hsn : starW c w (w.take (i + 1)) = starL c w (w.getD i 0) := by rw [← take_snoc 0 w i h, starW_snoc, hcur]
      have hss := starS_eq hc hR hRl hlet
      rw [← hss] at hsn
      have hle2 : letters c.length (w ++ [w.getD i 0]) := letters_append.2 ⟨hR.1, by simpa [letters] using hlet⟩
      refine Run.nq ?_; refine Run.regionW hC (fun K hK => ?_); simp only [AW4, simprocAttr, hX]; (repeat (with_reducible refine And.intro ?_ ?_); exact vc0)
      refine FunA.callW hP hT (c_spec_ConcatWords w [w.getD i 0] (by omega) (by simp)) (by simp only [AW4, simprocAttr]) ?_
      rintro rs o ⟨rfl, rfl⟩
      (try simp only [AW4, simprocAttr, hX]); (repeat (with_reducible refine And.intro ?_ ?_); exact vc0)
      refine FunA.callW hP hT (c_spec_l8Normal c (w ++ [w.getD i 0]) hc hle2 (by simp; omega)) (by simp only [AW4, simprocAttr]) ?_
      rintro rs o ⟨rfl, rfl⟩
      (try simp only [AW4, simprocAttr, hX]); (repeat (with_reducible refine And.intro ?_ ?_); exact vc0)
      (repeat (with_reducible refine And.intro ?_ ?_); exact vc0); refine hK _ ?_; clear hK K; refine Run.nq ?_
      refine Run.nq ?_; refine Run.regionW hC (fun K hK => ?_); simp only [AW4, simprocAttr, hX]; (repeat (with_reducible refine And.intro ?_ ?_); exact vc0); refine hK _ ?_; clear hK K; refine Run.nq ?_
      refine Run.nq ?_; refine Run.condW (by simp only [AW4, simprocAttr, hX]; rfl) (by simp only [AW4, simprocAttr, hX]) ?_ ?_
      · intro h2
        have h2 : (w).length < (redL c (w ++ [w.getD i 0])).length := by simpa using h2
        have e : starS c w (w.getD i 0) = redL c (w ++ [w.getD i 0]) := by unfold starS; rw [if_pos h2]
        refine Run.nq ?_; refine Run.regionW hC (fun K hK => ?_); simp (disch := omega) only [wrap_id, AW4, simprocAttr, hX]; (repeat (with_reducible refine And.intro ?_ ?_); exact vc0); refine hK _ ?_; clear hK K; refine Run.nq ?_
        refine Run.le (Le.reP (obs' := [.arr .int w 0 nn, .arr .int (redL c (w ++ [w.getD i 0])) 0 true]) [0, 3] [(0, true, .sl false (.row false) c), (1, true, .own 1 0), (2, true, .own 0 0), (6, true, .nils), (7, true, .int .i64 i)] (pin1 hpin rfl rfl) rfl (by simp [leOs, leO_arr, oAt]) (by refine ⟨⟨_, rfl, ?_⟩, ⟨_, rfl, ?_⟩, ⟨_, rfl, ?_⟩, ⟨_, rfl, ?_⟩, ⟨_, rfl, ?_⟩, trivial⟩ <;> simp [leAV, oAt, genO])) ?_
        simp only [frV_cons, frV_nil]
        rw [← e, ← hsn]
        refine Run.nq ?_; refine Run.regionW hC (fun K hK => ?_); simp (disch := omega) only [wrap_id, AW4, simprocAttr, hX]; (repeat (with_reducible refine And.intro ?_ ?_); exact vc0); refine hK _ ?_; clear hK K; refine Run.nq ?_
        refine Run.le ?_ (ih (i + 1, true) ⟨h, fun k => by cases k⟩ (by simp only []; omega))
        exact Le.sub (by rfl) (by simp only [AW4, simprocAttr]; try simp)
      · intro h2
        have h2 : ¬ (w).length < (redL c (w ++ [w.getD i 0])).length := by simpa using h2
        have e : starS c w (w.getD i 0) = w := by unfold starS; rw [if_neg h2]
        refine Run.le (Le.reP (obs' := [.arr .int w 0 nn]) [0] [(0, true, .sl false (.row false) c), (1, true, .own 0 0), (2, true, .own 0 0), (6, true, .nils), (7, true, .int .i64 i)] (pin1 hpin rfl rfl) rfl (by simp [leOs, leO_arr, oAt]) (by refine ⟨⟨_, rfl, ?_⟩, ⟨_, rfl, ?_⟩, ⟨_, rfl, ?_⟩, ⟨_, rfl, ?_⟩, ⟨_, rfl, ?_⟩, trivial⟩ <;> simp [leAV, oAt, genO])) ?_
        simp only [frV_cons, frV_nil]
        have hsn2 : starW c w (w.take (i + 1)) = w := by rw [hsn, e]
        refine Run.nq ?_; refine Run.regionW hC (fun K hK => ?_); simp (disch := omega) only [wrap_id, AW4, simprocAttr, hX]; (repeat (with_reducible refine And.intro ?_ ?_); exact vc0); refine hK _ ?_; clear hK K; refine Run.nq ?_
        refine Run.le ?_ (ih (i + 1, false) ⟨h, fun _ => hsn2⟩ (by simp only []; omega))
        exact Le.sub (by rfl) (by simp only [AW4, simprocAttr]; try simp)
    · intro h
      simp at h; omega
  | true =>
    simp only [if_true]
    by_cases hiw : i < w.length
    case neg =>
      have hiw : i = w.length := by omega
      subst hiw
      refine Run.nq ?_; refine Run.regionW hC (fun K hK => ?_); simp only [AW4, simprocAttr, hX]; (repeat (with_reducible refine And.intro ?_ ?_); exact vc0); refine hK _ ?_; clear hK K; refine Run.nq ?_
      refine Run.nq ?_; refine Run.condW (by simp only [AW4, simprocAttr, hX]; rfl) (by simp only [AW4, simprocAttr, hX]) ?_ ?_
      · intro h; simp at h
      · intro _
        rw [List.take_length]
        refine Run.exit rfl ?_; refine Run.nq ?_
        refine Run.nq ?_; refine Run.regionW hC (fun K hK => ?_); simp only [AW4, simprocAttr, hX]; (repeat (with_reducible refine And.intro ?_ ?_); exact vc0); refine hK _ ?_; clear hK K; refine Run.nq ?_
        refine Run.le (Le.reP (obs' := [.arr .int w 0 nn, .arr .int (starW c w w) 0 true]) [0, 1] [(6, true, .own 1 0)] (pin1 hpin rfl rfl) rfl (by simp [leOs, leO_arr, oAt]) (by refine ⟨⟨_, rfl, ?_⟩, trivial⟩; simp [leAV, oAt, genO])) ?_
        simp only [frV_cons, frV_nil]
        refine Run.retW [6] (by decide) (by rw [hfn]; rfl) (by simp only [AW4, simprocAttr, hX]; rfl) (by simp only [AW4, simprocAttr, hX]) (hfin _ _ _ rfl rfl rfl ?_)
        exact .inr ⟨rfl, rfl⟩
    have hRl : (starW c w (w.take i)).length ≤ 30 := by simp at hR2; omega
    refine Run.nq ?_; refine Run.regionW hC (fun K hK => ?_); simp only [AW4, simprocAttr, hX]; (repeat (with_reducible refine And.intro ?_ ?_); exact vc0); refine hK _ ?_; clear hK K; refine Run.nq ?_
    refine Run.nq ?_; refine Run.condW (by simp only [AW4, simprocAttr, hX]; rfl) (by simp only [AW4, simprocAttr, hX]) ?_ ?_
    · intro h
      have h : i < w.length := by simpa using h
      have hlet := letters_getD.1 hw i h
      have hsn : starW c w (w.take (i + 1)) = starL c (starW c w (w.take i)) (w.getD i 0) := by rw [← take_snoc 0 w i h, starW_snoc]
      have hss := starS_eq hc hR hRl hlet
      rw [← hss] at hsn
      have hle2 : letters c.length ((starW c w (w.take i)) ++ [w.getD i 0]) := letters_append.2 ⟨hR.1, by simpa [letters] using hlet⟩
      refine Run.nq ?_; refine Run.regionW hC (fun K hK => ?_); simp only [AW4, simprocAttr, hX]; (repeat (with_reducible refine And.intro ?_ ?_); exact vc0)
      refine FunA.callW hP hT (c_spec_ConcatWords (starW c w (w.take i)) [w.getD i 0] (by omega) (by simp)) (by simp only [AW4, simprocAttr]) ?_
      rintro rs o ⟨rfl, rfl⟩
      (try simp only [AW4, simprocAttr, hX]); (repeat (with_reducible refine And.intro ?_ ?_); exact vc0)
      refine FunA.callW hP hT (c_spec_l8Normal c ((starW c w (w.take i)) ++ [w.getD i 0]) hc hle2 (by simp; omega)) (by simp only [AW4, simprocAttr]) ?_
      rintro rs o ⟨rfl, rfl⟩
      (try simp only [AW4, simprocAttr, hX]); (repeat (with_reducible refine And.intro ?_ ?_); exact vc0)
      (repeat (with_reducible refine And.intro ?_ ?_); exact vc0); refine hK _ ?_; clear hK K; refine Run.nq ?_
      refine Run.nq ?_; refine Run.regionW hC (fun K hK => ?_); simp only [AW4, simprocAttr, hX]; (repeat (with_reducible refine And.intro ?_ ?_); exact vc0); refine hK _ ?_; clear hK K; refine Run.nq ?_
      refine Run.nq ?_; refine Run.condW (by simp only [AW4, simprocAttr, hX]; rfl) (by simp only [AW4, simprocAttr, hX]) ?_ ?_
      · intro h2
        have h2 : ((starW c w (w.take i))).length < (redL c ((starW c w (w.take i)) ++ [w.getD i 0])).length := by simpa using h2
        have e : starS c (starW c w (w.take i)) (w.getD i 0) = redL c ((starW c w (w.take i)) ++ [w.getD i 0]) := by unfold starS; rw [if_pos h2]
        refine Run.nq ?_; refine Run.regionW hC (fun K hK => ?_); simp (disch := omega) only [wrap_id, AW4, simprocAttr, hX]; (repeat (with_reducible refine And.intro ?_ ?_); exact vc0); refine hK _ ?_; clear hK K; refine Run.nq ?_
        refine Run.le (Le.reP (obs' := [.arr .int w 0 nn, .arr .int (redL c ((starW c w (w.take i)) ++ [w.getD i 0])) 0 true]) [0, 4] [(0, true, .sl false (.row false) c), (1, true, .own 1 0), (2, true, .own 0 0), (6, true, .nils), (7, true, .int .i64 i)] (pin1 hpin rfl rfl) rfl (by simp [leOs, leO_arr, oAt]) (by refine ⟨⟨_, rfl, ?_⟩, ⟨_, rfl, ?_⟩, ⟨_, rfl, ?_⟩, ⟨_, rfl, ?_⟩, ⟨_, rfl, ?_⟩, trivial⟩ <;> simp [leAV, oAt, genO])) ?_
        simp only [frV_cons, frV_nil]
        rw [← e, ← hsn]
        refine Run.nq ?_; refine Run.regionW hC (fun K hK => ?_); simp (disch := omega) only [wrap_id, AW4, simprocAttr, hX]; (repeat (with_reducible refine And.intro ?_ ?_); exact vc0); refine hK _ ?_; clear hK K; refine Run.nq ?_
        refine Run.le ?_ (ih (i + 1, true) ⟨h, fun k => by cases k⟩ (by simp only []; omega))
        exact Le.sub (by rfl) (by simp only [AW4, simprocAttr]; try simp)
      · intro h2
        have h2 : ¬ ((starW c w (w.take i))).length < (redL c ((starW c w (w.take i)) ++ [w.getD i 0])).length := by simpa using h2
        have e : starS c (starW c w (w.take i)) (w.getD i 0) = (starW c w (w.take i)) := by unfold starS; rw [if_neg h2]
        refine Run.le (Le.reP (obs' := [.arr .int w 0 nn, .arr .int (starW c w (w.take i)) 0 true]) [0, 1] [(0, true, .sl false (.row false) c), (1, true, .own 1 0), (2, true, .own 0 0), (6, true, .nils), (7, true, .int .i64 i)] (pin1 hpin rfl rfl) rfl (by simp [leOs, leO_arr, oAt]) (by refine ⟨⟨_, rfl, ?_⟩, ⟨_, rfl, ?_⟩, ⟨_, rfl, ?_⟩, ⟨_, rfl, ?_⟩, ⟨_, rfl, ?_⟩, trivial⟩ <;> simp [leAV, oAt, genO])) ?_
        simp only [frV_cons, frV_nil]
        rw [← e, ← hsn]
        refine Run.nq ?_; refine Run.regionW hC (fun K hK => ?_); simp (disch := omega) only [wrap_id, AW4, simprocAttr, hX]; (repeat (with_reducible refine And.intro ?_ ?_); exact vc0); refine hK _ ?_; clear hK K; refine Run.nq ?_
        refine Run.le ?_ (ih (i + 1, true) ⟨h, fun k => by cases k⟩ (by simp only []; omega))
        exact Le.sub (by rfl) (by simp only [AW4, simprocAttr]; try simp)
    · intro h
      simp at h; omega

end Go.Proofs.Ytbeeblhmgpgkjaa

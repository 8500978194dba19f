/- The order of the word of all points. -/
import Derived.Test.YtnhiamdnghgboaaDet4
import Derived.Test.YtnhiamdnghgboaaCoxE
import Derived.Test.YtnhiamdnghgboaaParts
set_option linter.unusedVariables false
set_option linter.unusedSimpArgs false
namespace Go.Proofs.Ytnhiamdnghgboaa
open Go Go.Aw Go.Cox

theorem coxW_upto (n : Nat) : coxW n = upto n := rfl
def pwL (w : List Int) : Nat → List Int
  | 0 => []
  | n + 1 => pwL w n ++ w
theorem pwL_act (c : List (List Int)) (w : List Int) : ∀ (n : Nat) (v : List Int), actL c (pwL w n) v = itW c w n v
  | 0, v => rfl
  | n + 1, v => by rw [pwL, actL_append, pwL_act c w n]; rfl
theorem itW_succ (c : List (List Int)) (w : List Int) : ∀ (n : Nat) (v : List Int), itW c w (n + 1) v = actL c w (itW c w n v)
  | 0, _ => rfl
  | n + 1, v => by show itW c w (n + 1) (actL c w v) = _; rw [itW_succ c w n]; rfl
theorem pwL_letters {n : Nat} {w : List Int} (h : letters n w) : ∀ k, letters n (pwL w k)
  | 0 => letters_nil n
  | k + 1 => letters_append.2 ⟨pwL_letters h k, h⟩
theorem upto_letters (n : Nat) : letters n (upto n) := by
  intro i hi
  simp only [upto, List.mem_map, List.mem_range] at hi
  obtain ⟨k, hk, rfl⟩ := hi
  omega
/-- The first power that is one. -/
def cxN (c : List (List Int)) : Nat → Nat → Nat
  | 0, k => k
  | f + 1, k => if itW c (upto c.length) k (ones c.length) = ones c.length then k else cxN c f (k + 1)
noncomputable def coxN (c : List (List Int)) : Int := if isF c then (cxN c 12 1 : Nat) else 0
theorem fin_ord {c : List (List Int)} (hF : FinP c) : ∃ k, 1 ≤ k ∧ k ≤ 12 ∧ itW c (upto c.length) k (ones c.length) = ones c.length := (fin_all hF).2.1
/-- What is known ahead of the k-th power. -/
def Ahead (c : List (List Int)) (k : Nat) : Prop := 1 ≤ k ∧ k ≤ 12 ∧ cxN c 12 1 = cxN c (13 - k) k ∧ ∀ j, 1 ≤ j → j < k → itW c (upto c.length) j (ones c.length) ≠ ones c.length
theorem Ahead.one (c : List (List Int)) : Ahead c 1 := ⟨by omega, by omega, rfl, fun j h1 h2 => by omega⟩
theorem Ahead.done {c : List (List Int)} {k : Nat} (h : Ahead c k) (e : itW c (upto c.length) k (ones c.length) = ones c.length) : cxN c 12 1 = k := by
  obtain ⟨h1, h2, h3, _⟩ := h
  rw [h3, show 13 - k = (12 - k) + 1 by omega, cxN, if_pos e]
theorem Ahead.next {c : List (List Int)} (hF : FinP c) {k : Nat} (h : Ahead c k) (e : itW c (upto c.length) k (ones c.length) ≠ ones c.length) : Ahead c (k + 1) := by
  obtain ⟨h1, h2, h3, h4⟩ := h
  have hn : ∀ j, 1 ≤ j → j < k + 1 → itW c (upto c.length) j (ones c.length) ≠ ones c.length := fun j q1 q2 => by
    rcases Nat.lt_or_ge j k with q | q
    · exact h4 j q1 q
    · rw [show j = k by omega]; exact e
  obtain ⟨m, m1, m2, m3⟩ := fin_ord hF
  have hm : k + 1 ≤ m := by
    rcases Nat.lt_or_ge m (k + 1) with q | q
    · exact absurd m3 (hn m m1 q)
    · exact q
  refine ⟨by omega, by omega, ?_, hn⟩
  rw [h3, show 13 - k = (12 - k) + 1 by omega, cxN, if_neg e, show 13 - (k + 1) = 12 - k by omega]

theorem red_nil {c : List (List Int)} (hc : CartanP c) {w : List Int} (hw : letters c.length w) (hl : w.length ≤ 31) : redL c w = [] ↔ imageL c w = ones c.length := by
  obtain ⟨a1, a2, a3, a4, a5⟩ := red_spec hc hw hl
  constructor
  · intro h; rw [← a4, h]; rfl
  · intro h
    rw [h] at a5
    exact List.eq_nil_of_length_eq_zero (a5.uniq hc (Far.ones c))
theorem fin_red {c : List (List Int)} (hF : FinP c) {w : List Int} (hw : letters c.length w) (hl : w.length ≤ 31) : (redL c w).length ≤ 24 := by
  obtain ⟨a1, a2, a3, a4, a5⟩ := red_spec hF.1 hw hl
  exact fin_len hF _ a5

theorem c_impl_CoxeterNumber (c : List (List Int)) (hcl : c.length ≤ 1048576) : FunA B 30 [.sl false (.row false) c] (fun rs o => rs = [.int .i64 (coxN c)] ∧ o = []) := by
  refine FunA.walk B_ok (fn := Try.f30) (fun vs w => Try.call30 vs w) Try.func30 rfl (by rw [Try.ntmps30]; simp) (fun C hC hP hT hΓ hbt hfn hpin hfin => ?_); have hX := BX; rw [← hΓ, ← hbt] at hX; rw [Try.ntmps30]; simp only [AW4, simprocAttr, hX]
  refine Run.nq ?_; refine Run.regionW hC (fun K hK => ?_); simp only [AW4, simprocAttr, hX]; (repeat (with_reducible refine And.intro ?_ ?_); exact vc0); refine hK _ ?_; clear hK K; refine Run.nq ?_
  refine Run.nq ?_; refine Run.regionW hC (fun K hK => ?_); simp only [AW4, simprocAttr, hX]; (repeat (with_reducible refine And.intro ?_ ?_); exact vc0)
  refine FunA.callW hP hT (c_impl_IsFinite c) (by simp only [AW4, simprocAttr]) ?_
  rintro rs o ⟨rfl, rfl⟩
  (try simp only [AW4, simprocAttr, hX]); (repeat (with_reducible refine And.intro ?_ ?_); exact vc0)
  (repeat (with_reducible refine And.intro ?_ ?_); exact vc0); refine hK _ ?_; clear hK K; refine Run.nq ?_
  refine Run.nq ?_; refine Run.condW (by simp only [AW4, simprocAttr, hX]; rfl) (by simp only [AW4, simprocAttr, hX]) ?_ ?_
  · intro h
    have h : isF c = false := by simpa using h
    refine Run.nq ?_; refine Run.regionW hC (fun K hK => ?_); simp only [AW4, simprocAttr, hX]; (repeat (with_reducible refine And.intro ?_ ?_); exact vc0); refine hK _ ?_; clear hK K; refine Run.nq ?_
    refine Run.retW [2] (by decide) (by rw [hfn]; rfl) (by simp only [AW4, simprocAttr, hX]; rfl) (by simp only [AW4, simprocAttr, hX]) (hfin _ _ rfl rfl ?_)
    simp [coxN, h]
  intro h
  have h : isF c = true := by simpa using h
  have hF := isF_iff.1 h
  have hc := hF.1
  have hn := hc.2.1
  have hcx : coxE c = upto c.length := by simp [coxE, isC_true hc]
  have hul := upto_length c.length
  have hup := upto_letters c.length
  refine Run.nq ?_; refine Run.regionW hC (fun K hK => ?_); simp only [AW4, simprocAttr, hX]; (repeat (with_reducible refine And.intro ?_ ?_); exact vc0)
  refine FunA.callW hP hT (c_impl_CoxeterElement c hcl) (by simp only [AW4, simprocAttr]) ?_
  rintro rs o ⟨rfl, rfl⟩
  rw [hcx]
  (try simp only [AW4, simprocAttr, hX]); (repeat (with_reducible refine And.intro ?_ ?_); exact vc0)
  (repeat (with_reducible refine And.intro ?_ ?_); exact vc0); refine hK _ ?_; clear hK K; refine Run.nq ?_
  refine Run.nq ?_; refine Run.regionW hC (fun K hK => ?_); simp only [AW4, simprocAttr, hX]; (repeat (with_reducible refine And.intro ?_ ?_); exact vc0); refine hK _ ?_; clear hK K; refine Run.nq ?_
  refine Run.nq ?_; refine Run.regionW hC (fun K hK => ?_); simp only [AW4, simprocAttr, hX]; (repeat (with_reducible refine And.intro ?_ ?_); exact vc0); refine hK _ ?_; clear hK K; refine Run.nq ?_
  refine Run.reK hpin [0, 2, 3, 5, 6] [0, 1] (by decide) (by simp) ?_; simp only [AR, AW4, simprocAttr]
  refine Run.le (Le.sub (fr' := [(0, true, .v (.sl false (.row false) c)), (2, true, .v (.int .i64 0)), (3, true, .v (.own 0 0)), (5, true, .v (.own 1 0)), (6, true, .v (.int .i64 (1 : Nat)))]) rfl (by simp only [AW4, simprocAttr]; try simp)) ?_
  refine Run.loopI (X := Nat × List Int × Bool) (fun k => ⟨27, [(0, true, .v (.sl false (.row false) (c))), (2, true, .v (.int .i64 (0))), (3, true, .v (.own 0 0)), (5, true, .v (.own 1 0)), (6, true, .v (.int .i64 (k.1)))], [.arr .int ((upto c.length)) 0 true, .arr .int k.2.1 0 true]⟩) (fun k => Ahead c k.1 ∧ letters c.length k.2.1 ∧ k.2.1.length ≤ 24 ∧ imageL c k.2.1 = itW c (upto c.length) (k.1 - 1) (ones c.length)) (fun k => 13 - k.1) ((1, [], true)) (⟨Ahead.one c, letters_nil _, by simp, rfl⟩) ?_ ?_
  · exact Le.sub (by first | rfl | simp) (by simp only [AW4, simprocAttr, hX]; try simp <;> try (first | rfl | exact ⟨rfl, rfl⟩ | exact ⟨rfl, rfl, rfl⟩))
  rintro ⟨k, p, nn⟩ ⟨hA, hp, hpl, hpi⟩ ih
  try simp only []
  simp only [] at hA hp hpl hpi
  have hk := hA.1
  have hk2 := hA.2.1
  have hlet : letters c.length (p ++ upto c.length) := letters_append.2 ⟨hp, hup⟩
  have hll : (p ++ upto c.length).length ≤ 28 := by simp; omega
  obtain ⟨a1, a2, a3, a4, a5⟩ := red_spec hc hlet (by omega)
  have himg : imageL c (p ++ upto c.length) = itW c (upto c.length) k (ones c.length) := by
    rw [image_append]
    have e1 : imageL c p = imageL c (pwL (upto c.length) (k - 1)) := by rw [hpi]; exact (pwL_act c (upto c.length) (k - 1) (ones c.length)).symm
    rw [same_elt hc hp (pwL_letters hup (k - 1)) e1 (imageL_length c _), pwL_act]
    show itW c (upto c.length) (k - 1 + 1) (ones c.length) = _
    rw [show k - 1 + 1 = k by omega]
  have hr24 := fin_red hF hlet (by omega)
  have hnil := red_nil hc hlet (by omega)
  refine Run.nq ?_; refine Run.regionW hC (fun K hK => ?_); simp only [AW4, simprocAttr, hX]; (repeat (with_reducible refine And.intro ?_ ?_); exact vc0)
  refine FunA.callW hP hT (c_impl_ConcatWords p (upto c.length) (by omega) (by omega)) (by simp only [AW4, simprocAttr]) ?_
  rintro rs o ⟨nn2, rfl, rfl⟩
  (try simp only [AW4, simprocAttr, hX]); (repeat (with_reducible refine And.intro ?_ ?_); exact vc0)
  refine FunA.callW hP hT (c_impl_reduced c (p ++ upto c.length) hc hlet (by omega)) (by simp only [AW4, simprocAttr]) ?_
  rintro rs o ⟨rfl, rfl⟩
  (try simp only [AW4, simprocAttr, hX]); (repeat (with_reducible refine And.intro ?_ ?_); exact vc0)
  (repeat (with_reducible refine And.intro ?_ ?_); exact vc0); refine hK _ ?_; clear hK K; refine Run.nq ?_
  refine Run.nq ?_; refine Run.regionW hC (fun K hK => ?_); simp only [AW4, simprocAttr, hX]; (repeat (with_reducible refine And.intro ?_ ?_); exact vc0); refine hK _ ?_; clear hK K; refine Run.nq ?_
  refine Run.nq ?_; refine Run.condW (by simp only [AW4, simprocAttr, hX]; rfl) (by simp only [AW4, simprocAttr, hX]) ?_ ?_
  · intro h2
    have h2 : redL c (p ++ upto c.length) = [] := by simpa using h2
    have he := hA.done (by rw [← himg]; exact hnil.1 h2)
    refine Run.nq ?_; refine Run.regionW hC (fun K hK => ?_); simp only [AW4, simprocAttr, hX]; (repeat (with_reducible refine And.intro ?_ ?_); exact vc0); refine hK _ ?_; clear hK K; refine Run.nq ?_
    refine Run.reK hpin [2] [] (by decide) (by simp) ?_; simp only [AR, AW4, simprocAttr]
    refine Run.retW [2] (by decide) (by rw [hfn]; rfl) (by simp only [AW4, simprocAttr, hX]; rfl) (by simp only [AW4, simprocAttr, hX]) (hfin _ _ rfl rfl ?_)
    simp [coxN, h, he]
  · intro h2
    have h2 : redL c (p ++ upto c.length) ≠ [] := by simpa using h2
    have he := hA.next hF (by rw [← himg]; exact fun e => h2 (hnil.2 e))
    refine Run.nq ?_; refine Run.regionW hC (fun K hK => ?_); simp (disch := omega) only [wrap_id, AW4, simprocAttr, hX]; (repeat (with_reducible refine And.intro ?_ ?_); exact vc0); refine hK _ ?_; clear hK K; refine Run.nq ?_
    refine Run.reK hpin [0, 2, 3, 5, 6] [0, 3] (by decide) (by simp) ?_; simp only [AR, AW4, simprocAttr]
    refine Run.le ?_ (ih (k + 1, redL c (p ++ upto c.length), true) ⟨he, a1, hr24, by simp only []; rw [a4, himg, Nat.add_sub_cancel]⟩ (by simp only []; omega))
    exact Le.sub (by rfl) (by simp only [AW4, simprocAttr]; try simp)

theorem c_spec_ActOnWeight (c : List (List Int)) (w v : List Int) (hw : WordP c w) (hv : v.length = c.length) (hB : ∀ j, Bd 9223372036854775807 (actL c (w.drop j) v)) :
    FunA B 63 [.sl false (.row false) c, .sl false .int w, .sl false .int v] (fun rs o => rs = [.own 0 0] ∧ o = [.arr .int (actL c w v) 0 true]) := by
  have hc := hw.1
  have hn := hc.2.1
  have hl := hw.2.1
  have hwb : wordB c w = true := wordB_iff.2 hw
  refine FunA.walk B_ok (fn := Try.f63) (fun vs w => Try.call63 vs w) Try.func63 rfl (by rw [Try.ntmps63]; simp) (fun C hC hP hT hΓ hbt hfn hpin hfin => ?_); have hX := BX; rw [← hΓ, ← hbt] at hX; rw [Try.ntmps63]; simp only [AW4, simprocAttr, hX]
  refine Run.nq ?_; refine Run.regionW hC (fun K hK => ?_); simp only [AW4, simprocAttr, hX]; (repeat (with_reducible refine And.intro ?_ ?_); exact vc0); refine hK _ ?_; clear hK K; refine Run.nq ?_
  refine Run.nq ?_; refine Run.regionW hC (fun K hK => ?_); simp only [AW4, simprocAttr, hX]; (repeat (with_reducible refine And.intro ?_ ?_); exact vc0); refine hK _ ?_; clear hK K; refine Run.nq ?_
  refine Run.nq ?_; refine Run.regionW hC (fun K hK => ?_); simp (disch := omega) only [wrap_id, AW4, simprocAttr, hX]; (repeat (with_reducible refine And.intro ?_ ?_); exact vc0); refine hK _ ?_; clear hK K; refine Run.nq ?_
  refine Run.reK hpin [0, 1, 2, 6, 7, 8] [0] (by decide) (by simp) ?_; simp only [AR, AW4, simprocAttr]
  refine Run.le (Le.sub (fr' := [(0, true, .v (.sl false (.row false) c)), (1, true, .v (.sl false .int w)), (2, true, .v (.sl false .int v)), (6, true, .v .nils), (7, true, .v (.own 0 0)), (8, true, .v (.int .i64 ((w.length : Int) - 1)))]) rfl (by simp only [AW4, simprocAttr]; try simp)) ?_
  have hd0 : actL c (w.drop w.length) v = v := by rw [List.drop_length]; rfl
  refine Run.le (Le.re (obs' := [.arr .int (actL c (w.drop w.length) v) 0 true]) hpin [0] [(0, true, .sl false (.row false) c), (1, true, .sl false .int w), (2, true, .sl false .int v), (6, true, .nils), (7, true, .own 0 0), (8, true, .int .i64 ((w.length : Int) - 1))] rfl (by simp [leOs, leO_arr, oAt, actL]) (by refine ⟨⟨_, rfl, ?_⟩, ⟨_, rfl, ?_⟩, ⟨_, rfl, ?_⟩, ⟨_, rfl, ?_⟩, ⟨_, rfl, ?_⟩, ⟨_, rfl, ?_⟩, trivial⟩ <;> simp [leAV, oAt, genO])) ?_
  simp only [frV_cons, frV_nil]
  refine Run.loopI (X := Nat) (fun j => ⟨39, [(0, true, .v (.sl false (.row false) (c))), (1, true, .v (.sl false .int (w))), (2, true, .v (.sl false .int (v))), (6, true, .v (.nils)), (7, true, .v (.own 0 0)), (8, true, .v (.int .i64 (((j : Int) - 1))))], [.arr .int ((actL c (w.drop j) v)) 0 true]⟩) (fun j => j ≤ w.length) (fun j => j) (w.length) (Nat.le_refl _) ?_ ?_
  · exact Le.sub (by first | rfl | simp) (by simp only [AW4, simprocAttr, hX]; try simp <;> try (first | rfl | exact ⟨rfl, rfl⟩ | exact ⟨rfl, rfl, rfl⟩))
  rintro j hj ih
  try simp only []
  have hal := actL_length c v (w.drop j)
  refine Run.nq ?_; refine Run.regionW hC (fun K hK => ?_); simp only [AW4, simprocAttr, hX]; (repeat (with_reducible refine And.intro ?_ ?_); exact vc0)
  cases j with
  | zero =>
    have e1 : decide ((0 : Int) ≤ ((0 : Nat) : Int) - 1) = false := by decide
    simp only [e1]
    refine .inl (CallG.off (.bool false) ?_)
    (try simp only [AW4, simprocAttr, hX]); (repeat (with_reducible refine And.intro ?_ ?_); exact vc0)
    (repeat (with_reducible refine And.intro ?_ ?_); exact vc0); refine hK _ ?_; clear hK K; refine Run.nq ?_
    refine Run.nq ?_; refine Run.condW (by simp only [AW4, simprocAttr, hX]; rfl) (by simp only [AW4, simprocAttr, hX]) ?_ ?_
    · intro h; cases h
    intro h
    refine Run.exit rfl ?_; refine Run.nq ?_
    refine Run.nq ?_; refine Run.regionW hC (fun K hK => ?_); simp only [AW4, simprocAttr, hX]; (repeat (with_reducible refine And.intro ?_ ?_); exact vc0); refine hK _ ?_; clear hK K; refine Run.nq ?_
    refine Run.retW [6] (by decide) (by rw [hfn]; rfl) (by simp only [AW4, simprocAttr, hX]; rfl) (by simp only [AW4, simprocAttr, hX]) (hfin _ _ rfl rfl ?_)
    exact ⟨rfl, by rw [List.drop_zero]⟩
  | succ j =>
    have e1 : decide ((0 : Int) ≤ ((j + 1 : Nat) : Int) - 1) = true := by rw [decide_eq_true_eq]; omega
    have e2 : ((j + 1 : Nat) : Int) - 1 = j := by omega
    simp only [e1]
    refine .inr ⟨rfl, ?_⟩
    refine FunA.callW hP hT (c_spec_IsWord c w (by omega)) (by simp only [AW4, simprocAttr]) ?_
    rintro rs o ⟨rfl, rfl⟩
    simp only [hwb]
    (try simp only [AW4, simprocAttr, hX]); (repeat (with_reducible refine And.intro ?_ ?_); exact vc0)
    (repeat (with_reducible refine And.intro ?_ ?_); exact vc0); refine hK _ ?_; clear hK K; refine Run.nq ?_
    refine Run.nq ?_; refine Run.condW (by simp only [AW4, simprocAttr, hX]; rfl) (by simp only [AW4, simprocAttr, hX]) ?_ ?_
    rotate_left
    · intro h; simp [hv] at h
    intro h
    clear h
    rw [e2]
    have hlet := letters_getD.1 hw.2.2 j (by omega)
    have hdr := actL_drop c w v j (by omega)
    have hBj := hB j
    rw [hdr] at hBj
    refine Run.nq ?_; refine Run.regionW hC (fun K hK => ?_); simp only [AW4, simprocAttr, hX]; (repeat (with_reducible refine And.intro ?_ ?_); exact vc0)
    refine FunA.callW hP hT (c_spec_l6Reflect c (w.getD j 0) (actL c (w.drop (j + 1)) v) hc (by omega) hlet hBj) (by simp only [AW4, simprocAttr]) ?_
    rintro rs o ⟨rfl, rfl⟩
    (try simp only [AW4, simprocAttr, hX]); (repeat (with_reducible refine And.intro ?_ ?_); exact vc0)
    (repeat (with_reducible refine And.intro ?_ ?_); exact vc0); refine hK _ ?_; clear hK K; refine Run.nq ?_
    rw [← hdr]
    refine Run.nq ?_; refine Run.regionW hC (fun K hK => ?_); simp (disch := omega) only [wrap_id, AW4, simprocAttr, hX]; (repeat (with_reducible refine And.intro ?_ ?_); exact vc0); refine hK _ ?_; clear hK K; refine Run.nq ?_
    refine Run.reK hpin [0, 1, 2, 6, 7, 8] [1] (by decide) (by simp) ?_; simp only [AR, AW4, simprocAttr]
    refine Run.le ?_ (ih j (by omega) (by omega))
    exact Le.sub (by rfl) (by simp only [AW4, simprocAttr]; try simp)

theorem c_spec_CoxeterNumber (c : List (List Int)) (hcl : c.length ≤ 1048576) : FunA B 29 [.sl false (.row false) c] (fun rs o => rs = [.int .i64 (coxN c)] ∧ o = []) := by
  refine FunA.walk B_ok (fn := Try.f29) (fun vs w => Try.call29 vs w) Try.func29 rfl (by rw [Try.ntmps29]; simp) (fun C hC hP hT hΓ hbt hfn hpin hfin => ?_); have hX := BX; rw [← hΓ, ← hbt] at hX; rw [Try.ntmps29]; simp only [AW4, simprocAttr, hX]
  refine Run.nq ?_; refine Run.regionW hC (fun K hK => ?_); simp only [AW4, simprocAttr, hX]; (repeat (with_reducible refine And.intro ?_ ?_); exact vc0); refine hK _ ?_; clear hK K; refine Run.nq ?_
  refine Run.nq ?_; refine Run.regionW hC (fun K hK => ?_); simp only [AW4, simprocAttr, hX]; (repeat (with_reducible refine And.intro ?_ ?_); exact vc0)
  refine FunA.callW hP hT (c_spec_CoxeterElement c hcl) (by simp only [AW4, simprocAttr]) ?_
  rintro rs o ⟨rfl, rfl⟩
  (try simp only [AW4, simprocAttr, hX]); (repeat (with_reducible refine And.intro ?_ ?_); exact vc0)
  (repeat (with_reducible refine And.intro ?_ ?_); exact vc0); refine hK _ ?_; clear hK K; refine Run.nq ?_
  refine Run.nq ?_; refine Run.regionW hC (fun K hK => ?_); simp only [AW4, simprocAttr, hX]; (repeat (with_reducible refine And.intro ?_ ?_); exact vc0)
  cases hb : isC c with
  | false =>
    (try simp only [AW4, simprocAttr, hX]); (repeat (with_reducible refine And.intro ?_ ?_); exact vc0)
    refine .inl (CallG.off (.bool false) ?_)
    (try simp only [AW4, simprocAttr, hX]); (repeat (with_reducible refine And.intro ?_ ?_); exact vc0)
    (repeat (with_reducible refine And.intro ?_ ?_); exact vc0); refine hK _ ?_; clear hK K; refine Run.nq ?_
    refine Run.nq ?_; refine Run.condW (by simp only [AW4, simprocAttr, hX]; rfl) (by simp only [AW4, simprocAttr, hX]) ?_ ?_
    · intro h
      refine Run.nq ?_; refine Run.regionW hC (fun K hK => ?_); simp only [AW4, simprocAttr, hX]; (repeat (with_reducible refine And.intro ?_ ?_); exact vc0); refine hK _ ?_; clear hK K; refine Run.nq ?_
      refine Run.reK hpin [2] [] (by decide) (by simp) ?_; simp only [AR, AW4, simprocAttr]
      refine Run.retW [2] (by decide) (by rw [hfn]; rfl) (by simp only [AW4, simprocAttr, hX]; rfl) (by simp only [AW4, simprocAttr, hX]) (hfin _ _ rfl rfl ?_)
      simp [coxN, isF_not hb]
    · intro h; cases h
  | true =>
    (try simp only [AW4, simprocAttr, hX]); (repeat (with_reducible refine And.intro ?_ ?_); exact vc0)
    refine .inr ⟨rfl, ?_⟩
    refine FunA.callW hP hT (c_spec_IsFinite c) (by simp only [AW4, simprocAttr]) ?_
    rintro rs o ⟨rfl, rfl⟩
    (try simp only [AW4, simprocAttr, hX]); (repeat (with_reducible refine And.intro ?_ ?_); exact vc0)
    (repeat (with_reducible refine And.intro ?_ ?_); exact vc0); refine hK _ ?_; clear hK K; refine Run.nq ?_
    refine Run.nq ?_; refine Run.condW (by simp only [AW4, simprocAttr, hX]; rfl) (by simp only [AW4, simprocAttr, hX]) ?_ ?_
    · intro h
      have h : isF c = false := by simpa using h
      refine Run.nq ?_; refine Run.regionW hC (fun K hK => ?_); simp only [AW4, simprocAttr, hX]; (repeat (with_reducible refine And.intro ?_ ?_); exact vc0); refine hK _ ?_; clear hK K; refine Run.nq ?_
      refine Run.reK hpin [2] [] (by decide) (by simp) ?_; simp only [AR, AW4, simprocAttr]
      refine Run.retW [2] (by decide) (by rw [hfn]; rfl) (by simp only [AW4, simprocAttr, hX]; rfl) (by simp only [AW4, simprocAttr, hX]) (hfin _ _ rfl rfl ?_)
      simp [coxN, h]
    intro h
    have h : isF c = true := by simpa using h
    have hF := isF_iff.1 h
    have hc := hF.1
    have hn := hc.2.1
    have hcx : coxE c = upto c.length := by simp [coxE, isC_true hc]
    have hul := upto_length c.length
    have hup := upto_letters c.length
    have hW : WordP c (upto c.length) := ⟨hc, by omega, hup⟩
    rw [hcx]
    refine Run.nq ?_; refine Run.regionW hC (fun K hK => ?_); simp only [AW4, simprocAttr, hX]; (repeat (with_reducible refine And.intro ?_ ?_); exact vc0)
    refine FunA.callW hP hT (c_spec_RhoOf c hc) (by simp only [AW4, simprocAttr]) ?_
    rintro rs o ⟨rfl, rfl⟩
    (try simp only [AW4, simprocAttr, hX]); (repeat (with_reducible refine And.intro ?_ ?_); exact vc0)
    (repeat (with_reducible refine And.intro ?_ ?_); exact vc0); refine hK _ ?_; clear hK K; refine Run.nq ?_
    refine Run.nq ?_; refine Run.regionW hC (fun K hK => ?_); simp only [AW4, simprocAttr, hX]; (repeat (with_reducible refine And.intro ?_ ?_); exact vc0); refine hK _ ?_; clear hK K; refine Run.nq ?_
    refine Run.reK hpin [0, 2, 3, 5, 6] [0, 1] (by decide) (by simp) ?_; simp only [AR, AW4, simprocAttr]
    refine Run.le (Le.sub (fr' := [(0, true, .v (.sl false (.row false) c)), (2, true, .v (.int .i64 0)), (3, true, .v (.own 0 0)), (5, true, .v (.own 1 0)), (6, true, .v (.int .i64 (1 : Nat)))]) rfl (by simp only [AW4, simprocAttr]; try simp)) ?_
    refine Run.loopI (X := Nat × List Int) (fun k => ⟨34, [(0, true, .v (.sl false (.row false) (c))), (2, true, .v (.int .i64 (0))), (3, true, .v (.own 0 0)), (5, true, .v (.own 1 0)), (6, true, .v (.int .i64 (k.1)))], [.arr .int ((upto c.length)) 0 true, .arr .int (k.2) 0 true]⟩) (fun k => Ahead c k.1 ∧ k.2 = itW c (upto c.length) (k.1 - 1) (ones c.length)) (fun k => 13 - k.1) ((1, ones c.length)) (⟨Ahead.one c, rfl⟩) ?_ ?_
    · exact Le.sub (by first | rfl | simp) (by simp only [AW4, simprocAttr, hX]; try simp <;> try (first | rfl | exact ⟨rfl, rfl⟩ | exact ⟨rfl, rfl, rfl⟩))
    rintro ⟨k, v⟩ ⟨hA, hv⟩ ih
    try simp only []
    simp only [] at hA hv
    have hk := hA.1
    have hk2 := hA.2.1
    -- the vector as the image of a word
    have hvi : imageL c (pwL (upto c.length) (k - 1)) = v := by rw [hv]; exact pwL_act c _ _ _
    have hpl := pwL_letters hup (k - 1)
    obtain ⟨L0, _, _, hf0⟩ := Far.image hc hpl
    have hL0 := fin_len hF _ hf0
    have hvl : v.length = c.length := by rw [← hvi]; exact imageL_length c _
    have hB : ∀ j, Bd 9223372036854775807 (actL c ((upto c.length).drop j) v) := by
      intro j
      have hd := letters_drop hup j
      obtain ⟨L1, _, _, hf1⟩ := Far.image hc (letters_append.2 ⟨hd, hpl⟩)
      have hL1 := fin_len hF _ hf1
      have := far_bd hc hf1 (by omega)
      rwa [image_append, hvi] at this
    have hstep : actL c (upto c.length) v = itW c (upto c.length) k (ones c.length) := by
      rw [hv, ← itW_succ, show k - 1 + 1 = k by omega]
    have hal := actL_length c v (upto c.length)
    refine Run.nq ?_; refine Run.regionW hC (fun K hK => ?_); simp only [AW4, simprocAttr, hX]; (repeat (with_reducible refine And.intro ?_ ?_); exact vc0); refine hK _ ?_; clear hK K; refine Run.nq ?_
    refine Run.nq ?_; refine Run.condW (by simp only [AW4, simprocAttr, hX]; rfl) (by simp only [AW4, simprocAttr, hX]) ?_ ?_
    rotate_left
    · intro h2; simp at h2; omega
    intro h2
    clear h2
    refine Run.nq ?_; refine Run.regionW hC (fun K hK => ?_); simp only [AW4, simprocAttr, hX]; (repeat (with_reducible refine And.intro ?_ ?_); exact vc0)
    refine FunA.callW hP hT (c_spec_ActOnWeight c (upto c.length) v hW hvl hB) (by simp only [AW4, simprocAttr]) ?_
    rintro rs o ⟨rfl, rfl⟩
    (try simp only [AW4, simprocAttr, hX]); (repeat (with_reducible refine And.intro ?_ ?_); exact vc0)
    (repeat (with_reducible refine And.intro ?_ ?_); exact vc0); refine hK _ ?_; clear hK K; refine Run.nq ?_
    refine Run.nq ?_; refine Run.regionW hC (fun K hK => ?_); simp only [AW4, simprocAttr, hX]; (repeat (with_reducible refine And.intro ?_ ?_); exact vc0)
    refine FunA.callW hP hT (c_spec_RhoOf c hc) (by simp only [AW4, simprocAttr]) ?_
    rintro rs o ⟨rfl, rfl⟩
    (try simp only [AW4, simprocAttr, hX]); (repeat (with_reducible refine And.intro ?_ ?_); exact vc0)
    refine FunA.callW hP hT (c_spec_EqualWords (actL c (upto c.length) v) (ones c.length) (by omega)) (by simp only [AW4, simprocAttr]) ?_
    rintro rs o ⟨rfl, rfl⟩
    (try simp only [AW4, simprocAttr, hX]); (repeat (with_reducible refine And.intro ?_ ?_); exact vc0)
    (repeat (with_reducible refine And.intro ?_ ?_); exact vc0); refine hK _ ?_; clear hK K; refine Run.nq ?_
    refine Run.nq ?_; refine Run.condW (by simp only [AW4, simprocAttr, hX]; rfl) (by simp only [AW4, simprocAttr, hX]) ?_ ?_
    · intro h2
      have h2 : actL c (upto c.length) v = ones c.length := by simpa using h2
      have he := hA.done (by rw [← hstep]; exact h2)
      refine Run.nq ?_; refine Run.regionW hC (fun K hK => ?_); simp only [AW4, simprocAttr, hX]; (repeat (with_reducible refine And.intro ?_ ?_); exact vc0); refine hK _ ?_; clear hK K; refine Run.nq ?_
      refine Run.reK hpin [2] [] (by decide) (by simp) ?_; simp only [AR, AW4, simprocAttr]
      refine Run.retW [2] (by decide) (by rw [hfn]; rfl) (by simp only [AW4, simprocAttr, hX]; rfl) (by simp only [AW4, simprocAttr, hX]) (hfin _ _ rfl rfl ?_)
      simp [coxN, h, he]
    · intro h2
      have h2 : actL c (upto c.length) v ≠ ones c.length := by simpa using h2
      have he := hA.next hF (by rw [← hstep]; exact h2)
      refine Run.nq ?_; refine Run.regionW hC (fun K hK => ?_); simp (disch := omega) only [wrap_id, AW4, simprocAttr, hX]; (repeat (with_reducible refine And.intro ?_ ?_); exact vc0); refine hK _ ?_; clear hK K; refine Run.nq ?_
      refine Run.reK hpin [0, 2, 3, 5, 6] [0, 2] (by decide) (by simp) ?_; simp only [AR, AW4, simprocAttr]
      refine Run.le ?_ (ih (k + 1, actL c (upto c.length) v) ⟨he, by simp only []; rw [hstep, Nat.add_sub_cancel]⟩ (by simp only []; omega))
      exact Le.sub (by rfl) (by simp only [AW4, simprocAttr]; try simp)
end Go.Proofs.Ytnhiamdnghgboaa

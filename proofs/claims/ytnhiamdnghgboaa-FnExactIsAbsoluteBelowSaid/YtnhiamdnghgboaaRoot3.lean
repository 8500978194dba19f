/- Weights, and reflections with positive roots: what the functions of both sides do. -/
import Derived.Test.YtnhiamdnghgboaaRoot2
import Derived.Test.YtnhiamdnghgboaaParts
set_option linter.unusedVariables false
set_option linter.unusedSimpArgs false
namespace Go.Proofs.Ytnhiamdnghgboaa
open Go Go.Aw Go.Cox

def wgtP (c : List (List Int)) (v : List Int) : Prop := v.length = c.length ∧ ∀ k, k < v.length → -1000 ≤ v.getD k 0 ∧ v.getD k 0 ≤ 1000
open Classical in
noncomputable def wgtB (c : List (List Int)) (v : List Int) : Bool := isC c && decide (wgtP c v)
theorem wgtB_iff {c : List (List Int)} {v : List Int} : wgtB c v = true ↔ CartanP c ∧ wgtP c v := by simp [wgtB, isC_iff]

theorem c_impl_IsWeight (c : List (List Int)) (v : List Int) : FunA B 116 [.sl false (.row false) c, .sl false .int v] (fun rs o => rs = [.bool (wgtB c v)] ∧ o = []) := by
  refine FunA.walk B_ok (fn := Try.f116) (fun vs w => Try.call116 vs w) Try.func116 rfl (by rw [Try.ntmps116]; simp) (fun C hC hP hT hΓ hbt hfn hpin hfin => ?_); have hX := BX; rw [← hΓ, ← hbt] at hX; rw [Try.ntmps116]; simp only [AW5, simprocAttr, hX]
  refine Run.len 1 rfl fun hlens => ?_
  refine Run.nq ?_; refine Run.regionW hC (fun K hK => ?_); simp only [AW5, simprocAttr, hX]; (repeat (with_reducible refine And.intro ?_ ?_); exact vc0); refine hK _ ?_; clear hK K; refine Run.nq ?_
  refine Run.nq ?_; refine Run.regionW hC (fun K hK => ?_); simp only [AW5, simprocAttr, hX]; (repeat (with_reducible refine And.intro ?_ ?_); exact vc0)
  refine FunA.callW hP hT (c_impl_IsCartan c) (by simp only [AW5, simprocAttr]) ?_
  rintro rs o ⟨rfl, rfl⟩
  (try simp only [AW5, simprocAttr, hX]); (repeat (with_reducible refine And.intro ?_ ?_); exact vc0)
  (repeat (with_reducible refine And.intro ?_ ?_); exact vc0); refine hK _ ?_; clear hK K; refine Run.nq ?_
  refine Run.nq ?_; refine Run.condW (by simp only [AW5, simprocAttr, hX]; rfl) (by simp only [AW5, simprocAttr, hX]) ?_ ?_
  · intro h
    have h : wgtB c v = false := by
      unfold wgtB
      revert h
      cases hb : isC c with
      | false => simp
      | true =>
        intro h
        simp at h
        simp [wgtP, show ¬ v.length = c.length by omega]
    refine Run.nq ?_; refine Run.regionW hC (fun K hK => ?_); simp only [AW5, simprocAttr, hX]; (repeat (with_reducible refine And.intro ?_ ?_); exact vc0); refine hK _ ?_; clear hK K; refine Run.nq ?_
    refine Run.retW [4] (by decide) (by rw [hfn]; rfl) (by simp only [AW5, simprocAttr, hX]; rfl) (by simp only [AW5, simprocAttr, hX]) (hfin _ _ rfl rfl ?_)
    rw [h]; exact ⟨rfl, rfl⟩
  intro h
  have hb : isC c = true := by revert h; cases isC c <;> simp
  have hl : v.length = c.length := by revert h; rw [hb]; simp; omega
  refine Run.nq ?_; refine Run.regionW hC (fun K hK => ?_); simp only [AW5, simprocAttr, hX]; (repeat (with_reducible refine And.intro ?_ ?_); exact vc0); refine hK _ ?_; clear hK K; refine Run.nq ?_
  refine Run.loopI (X := Nat) (fun k => ⟨30, [(0, true, .v (.sl false (.row false) (c))), (1, true, .v (.sl false .int (v))), (17, true, .v (.sl false .int (v))), (18, true, .v (.int .i64 (v.length))), (19, true, .v (.int .i64 (k)))], []⟩) (fun k => k ≤ v.length ∧ ∀ j, j < k → -1000 ≤ v.getD j 0 ∧ v.getD j 0 ≤ 1000) (fun k => v.length - k) (0) (⟨Nat.zero_le _, by omega⟩) ?_ ?_
  · exact Le.sub (by first | rfl | simp) (by simp only [AW5, simprocAttr, hX]; try simp <;> try (first | rfl | exact ⟨rfl, rfl⟩ | exact ⟨rfl, rfl, rfl⟩))
  rintro k ⟨hk, hp⟩ ih
  try simp only []
  refine Run.nq ?_; refine Run.regionW hC (fun K hK => ?_); simp only [AW5, simprocAttr, hX]; (repeat (with_reducible refine And.intro ?_ ?_); exact vc0); refine hK _ ?_; clear hK K; refine Run.nq ?_
  refine Run.nq ?_; refine Run.condW (by simp only [AW5, simprocAttr, hX]; rfl) (by simp only [AW5, simprocAttr, hX]) ?_ ?_
  · intro h1
    have h1 : k < v.length := by simpa using h1
    refine Run.nq ?_; refine Run.regionW hC (fun K hK => ?_); simp only [AW5, simprocAttr, hX]; (repeat (with_reducible refine And.intro ?_ ?_); exact vc0); refine hK _ ?_; clear hK K; refine Run.nq ?_
    refine Run.nq ?_; refine Run.regionW hC (fun K hK => ?_); simp only [AW5, simprocAttr, hX]; (repeat (with_reducible refine And.intro ?_ ?_); exact vc0); refine hK _ ?_; clear hK K; refine Run.nq ?_
    refine Run.nq ?_; refine Run.condW (by simp only [AW5, simprocAttr, hX]; rfl) (by simp only [AW5, simprocAttr, hX]) ?_ ?_
    · intro h2
      have h2 : ¬ (-1000 ≤ v.getD k 0 ∧ v.getD k 0 ≤ 1000) := by
        intro h3
        rw [decide_eq_false (show ¬ v.getD k 0 < -1000 by omega), decide_eq_false (show ¬ 1000 < v.getD k 0 by omega)] at h2
        cases h2
      refine Run.nq ?_; refine Run.regionW hC (fun K hK => ?_); simp only [AW5, simprocAttr, hX]; (repeat (with_reducible refine And.intro ?_ ?_); exact vc0); refine hK _ ?_; clear hK K; refine Run.nq ?_
      refine Run.retW [4] (by decide) (by rw [hfn]; rfl) (by simp only [AW5, simprocAttr, hX]; rfl) (by simp only [AW5, simprocAttr, hX]) (hfin _ _ rfl rfl ?_)
      have : wgtB c v = false := by
        cases hw : wgtB c v with
        | false => rfl
        | true => exact absurd ((wgtB_iff.1 hw).2.2 k h1) h2
      rw [this]; exact ⟨rfl, rfl⟩
    · intro h2
      have h2 : -1000 ≤ v.getD k 0 ∧ v.getD k 0 ≤ 1000 := by
        by_cases e1 : v.getD k 0 < -1000
        · rw [decide_eq_true e1] at h2; cases h2
        · by_cases e2 : 1000 < v.getD k 0
          · rw [decide_eq_false e1, decide_eq_true e2] at h2; cases h2
          · omega
      have hp2 : ∀ j, j < k + 1 → -1000 ≤ v.getD j 0 ∧ v.getD j 0 ≤ 1000 := fun j hj => by
        by_cases hjk : j = k
        · subst hjk; exact h2
        · exact hp j (by omega)
      refine Run.nq ?_; refine Run.regionW hC (fun K hK => ?_); simp (disch := omega) only [wrap_id, AW5, simprocAttr, hX]; (repeat (with_reducible refine And.intro ?_ ?_); exact vc0); refine hK _ ?_; clear hK K; refine Run.nq ?_
      refine Run.le ?_ (ih (k + 1) (⟨by omega, hp2⟩) (by (try simp only [List.length_append, List.length_cons, List.length_nil]); omega))
      exact Le.sub (by rfl) (by simp only [AW5, simprocAttr]; try simp)
  · intro h1
    have h1 : k = v.length := by simp at h1; omega
    subst h1
    refine Run.exit rfl ?_; refine Run.nq ?_
    refine Run.nq ?_; refine Run.regionW hC (fun K hK => ?_); simp only [AW5, simprocAttr, hX]; (repeat (with_reducible refine And.intro ?_ ?_); exact vc0); refine hK _ ?_; clear hK K; refine Run.nq ?_
    refine Run.retW [4] (by decide) (by rw [hfn]; rfl) (by simp only [AW5, simprocAttr, hX]; rfl) (by simp only [AW5, simprocAttr, hX]) (hfin _ _ rfl rfl ?_)
    rw [wgtB_iff.2 ⟨isC_iff.1 hb, hl, hp⟩]; exact ⟨rfl, rfl⟩

theorem c_spec_IsWeight (c : List (List Int)) (v : List Int) : FunA B 115 [.sl false (.row false) c, .sl false .int v] (fun rs o => rs = [.bool (wgtB c v)] ∧ o = []) := by
  refine FunA.walk B_ok (fn := Try.f115) (fun vs w => Try.call115 vs w) Try.func115 rfl (by rw [Try.ntmps115]; simp) (fun C hC hP hT hΓ hbt hfn hpin hfin => ?_); have hX := BX; rw [← hΓ, ← hbt] at hX; rw [Try.ntmps115]; simp only [AW5, simprocAttr, hX]
  refine Run.len 1 rfl fun hlens => ?_
  refine Run.nq ?_; refine Run.regionW hC (fun K hK => ?_); simp only [AW5, simprocAttr, hX]; (repeat (with_reducible refine And.intro ?_ ?_); exact vc0); refine hK _ ?_; clear hK K; refine Run.nq ?_
  refine Run.nq ?_; refine Run.regionW hC (fun K hK => ?_); simp only [AW5, simprocAttr, hX]; (repeat (with_reducible refine And.intro ?_ ?_); exact vc0); refine hK _ ?_; clear hK K; refine Run.nq ?_
  refine Run.loopI (X := Nat) (fun k => ⟨27, [(0, true, .v (.sl false (.row false) (c))), (1, true, .v (.sl false .int (v))), (5, true, .v (.int .i64 (k)))], []⟩) (fun k => k ≤ v.length ∧ ∀ j, j < k → -1000 ≤ v.getD j 0 ∧ v.getD j 0 ≤ 1000) (fun k => v.length - k) (0) (⟨Nat.zero_le _, by omega⟩) ?_ ?_
  · exact Le.sub (by first | rfl | simp) (by simp only [AW5, simprocAttr, hX]; try simp <;> try (first | rfl | exact ⟨rfl, rfl⟩ | exact ⟨rfl, rfl, rfl⟩))
  rintro k ⟨hk, hp⟩ ih
  try simp only []
  refine Run.nq ?_; refine Run.regionW hC (fun K hK => ?_); simp only [AW5, simprocAttr, hX]; (repeat (with_reducible refine And.intro ?_ ?_); exact vc0); refine hK _ ?_; clear hK K; refine Run.nq ?_
  refine Run.nq ?_; refine Run.condW (by simp only [AW5, simprocAttr, hX]; rfl) (by simp only [AW5, simprocAttr, hX]) ?_ ?_
  · intro h1
    have h1 : k < v.length := by simpa using h1
    refine Run.nq ?_; refine Run.regionW hC (fun K hK => ?_); simp only [AW5, simprocAttr, hX]; (repeat (with_reducible refine And.intro ?_ ?_); exact vc0)
    refine FunA.callW hP hT (c_spec_l1In (v.getD k 0) (-1000) 1000) (by simp only [AW5, simprocAttr]) ?_
    rintro rs o ⟨rfl, rfl⟩
    (try simp only [AW5, simprocAttr, hX]); (repeat (with_reducible refine And.intro ?_ ?_); exact vc0)
    (repeat (with_reducible refine And.intro ?_ ?_); exact vc0); refine hK _ ?_; clear hK K; refine Run.nq ?_
    have key := inB_iff (x := v.getD k 0) (lo := -1000) (hi := 1000)
    refine Run.nq ?_; refine Run.condW (by simp only [AW5, simprocAttr, hX]; rfl) (by simp only [AW5, simprocAttr, hX]) ?_ ?_
    · intro h2
      have h2 : ¬ (-1000 ≤ v.getD k 0 ∧ v.getD k 0 ≤ 1000) := fun h => by rw [key.2 h] at h2; cases h2
      refine Run.nq ?_; refine Run.regionW hC (fun K hK => ?_); simp only [AW5, simprocAttr, hX]; (repeat (with_reducible refine And.intro ?_ ?_); exact vc0); refine hK _ ?_; clear hK K; refine Run.nq ?_
      refine Run.retW [4] (by decide) (by rw [hfn]; rfl) (by simp only [AW5, simprocAttr, hX]; rfl) (by simp only [AW5, simprocAttr, hX]) (hfin _ _ rfl rfl ?_)
      have : wgtB c v = false := by
        cases hw : wgtB c v with
        | false => rfl
        | true => exact absurd ((wgtB_iff.1 hw).2.2 k h1) h2
      rw [this]; exact ⟨rfl, rfl⟩
    · intro h2
      have h2 : -1000 ≤ v.getD k 0 ∧ v.getD k 0 ≤ 1000 := key.1 (by revert h2; cases inB (v.getD k 0) (-1000) 1000 <;> simp)
      have hp2 : ∀ j, j < k + 1 → -1000 ≤ v.getD j 0 ∧ v.getD j 0 ≤ 1000 := fun j hj => by
        by_cases hjk : j = k
        · subst hjk; exact h2
        · exact hp j (by omega)
      refine Run.nq ?_; refine Run.regionW hC (fun K hK => ?_); simp (disch := omega) only [wrap_id, AW5, simprocAttr, hX]; (repeat (with_reducible refine And.intro ?_ ?_); exact vc0); refine hK _ ?_; clear hK K; refine Run.nq ?_
      refine Run.le ?_ (ih (k + 1) (⟨by omega, hp2⟩) (by (try simp only [List.length_append, List.length_cons, List.length_nil]); omega))
      exact Le.sub (by rfl) (by simp only [AW5, simprocAttr]; try simp)
  · intro h1
    have h1 : k = v.length := by simp at h1; omega
    subst h1
    refine Run.exit rfl ?_; refine Run.nq ?_
    refine Run.nq ?_; refine Run.regionW hC (fun K hK => ?_); simp only [AW5, simprocAttr, hX]; (repeat (with_reducible refine And.intro ?_ ?_); exact vc0)
    refine FunA.callW hP hT (c_spec_IsCartan c) (by simp only [AW5, simprocAttr]) ?_
    rintro rs o ⟨rfl, rfl⟩
    (try simp only [AW5, simprocAttr, hX]); (repeat (with_reducible refine And.intro ?_ ?_); exact vc0)
    (repeat (with_reducible refine And.intro ?_ ?_); exact vc0); refine hK _ ?_; clear hK K; refine Run.nq ?_
    refine Run.retW [4] (by decide) (by rw [hfn]; rfl) (by simp only [AW5, simprocAttr, hX]; rfl) (by simp only [AW5, simprocAttr, hX]) (hfin _ _ rfl rfl ?_)
    refine ⟨?_, rfl⟩
    congr 2
    cases hb : isC c with
    | false => simp [wgtB, hb]
    | true =>
      by_cases hl : v.length = c.length
      · rw [wgtB_iff.2 ⟨isC_iff.1 hb, hl, hp⟩]; simp [hl]
      · have : wgtB c v = false := by simp [wgtB, wgtP, hl]
        rw [this]
        simp; omega

theorem c_impl_IsRootVector (c : List (List Int)) (v : List Int) : FunA B 75 [.sl false (.row false) c, .sl false .int v] (fun rs o => rs = [.bool (wgtB c v)] ∧ o = []) := by
  refine FunA.walk B_ok (fn := Try.f75) (fun vs w => Try.call75 vs w) Try.func75 rfl (by rw [Try.ntmps75]; simp) (fun C hC hP hT hΓ hbt hfn hpin hfin => ?_); have hX := BX; rw [← hΓ, ← hbt] at hX; rw [Try.ntmps75]; simp only [AW5, simprocAttr, hX]
  refine Run.nq ?_; refine Run.regionW hC (fun K hK => ?_); simp only [AW5, simprocAttr, hX]; (repeat (with_reducible refine And.intro ?_ ?_); exact vc0); refine hK _ ?_; clear hK K; refine Run.nq ?_
  refine Run.nq ?_; refine Run.regionW hC (fun K hK => ?_); simp only [AW5, simprocAttr, hX]; (repeat (with_reducible refine And.intro ?_ ?_); exact vc0)
  refine FunA.callW hP hT (c_impl_IsWeight c v) (by simp only [AW5, simprocAttr]) ?_
  rintro rs o ⟨rfl, rfl⟩
  (try simp only [AW5, simprocAttr, hX]); (repeat (with_reducible refine And.intro ?_ ?_); exact vc0)
  (repeat (with_reducible refine And.intro ?_ ?_); exact vc0); refine hK _ ?_; clear hK K; refine Run.nq ?_
  refine Run.retW [4] (by decide) (by rw [hfn]; rfl) (by simp only [AW5, simprocAttr, hX]; rfl) (by simp only [AW5, simprocAttr, hX]) (hfin _ _ rfl rfl ?_)
  exact ⟨rfl, rfl⟩
theorem c_spec_IsRootVector (c : List (List Int)) (v : List Int) : FunA B 68 [.sl false (.row false) c, .sl false .int v] (fun rs o => rs = [.bool (wgtB c v)] ∧ o = []) := by
  refine FunA.walk B_ok (fn := Try.f68) (fun vs w => Try.call68 vs w) Try.func68 rfl (by rw [Try.ntmps68]; simp) (fun C hC hP hT hΓ hbt hfn hpin hfin => ?_); have hX := BX; rw [← hΓ, ← hbt] at hX; rw [Try.ntmps68]; simp only [AW5, simprocAttr, hX]
  refine Run.nq ?_; refine Run.regionW hC (fun K hK => ?_); simp only [AW5, simprocAttr, hX]; (repeat (with_reducible refine And.intro ?_ ?_); exact vc0); refine hK _ ?_; clear hK K; refine Run.nq ?_
  refine Run.nq ?_; refine Run.regionW hC (fun K hK => ?_); simp only [AW5, simprocAttr, hX]; (repeat (with_reducible refine And.intro ?_ ?_); exact vc0)
  refine FunA.callW hP hT (c_spec_IsWeight c v) (by simp only [AW5, simprocAttr]) ?_
  rintro rs o ⟨rfl, rfl⟩
  (try simp only [AW5, simprocAttr, hX]); (repeat (with_reducible refine And.intro ?_ ?_); exact vc0)
  (repeat (with_reducible refine And.intro ?_ ?_); exact vc0); refine hK _ ?_; clear hK K; refine Run.nq ?_
  refine Run.retW [4] (by decide) (by rw [hfn]; rfl) (by simp only [AW5, simprocAttr, hX]; rfl) (by simp only [AW5, simprocAttr, hX]) (hfin _ _ rfl rfl ?_)
  exact ⟨rfl, rfl⟩

theorem c_spec_l9Fit (c : List (List Int)) (w : List Int) (hc : CartanP c) (hw : letters c.length w) (hl : w.length ≤ 31) :
    FunA B 72 [.sl false (.row false) c, .sl false .int w] (fun rs o => rs = [.own 0 0, .bool (decide ((redL c w).length ≤ 15))] ∧ o = [.arr .int (if (redL c w).length ≤ 15 then redL c w else []) 0 true]) := by
  obtain ⟨a1, a2, a3, a4, a5⟩ := red_spec hc hw hl
  refine FunA.walk B_ok (fn := Try.f72) (fun vs w => Try.call72 vs w) Try.func72 rfl (by rw [Try.ntmps72]; simp) (fun C hC hP hT hΓ hbt hfn hpin hfin => ?_); have hX := BX; rw [← hΓ, ← hbt] at hX; rw [Try.ntmps72]; simp only [AW5, simprocAttr, hX]
  refine Run.nq ?_; refine Run.regionW hC (fun K hK => ?_); simp only [AW5, simprocAttr, hX]; (repeat (with_reducible refine And.intro ?_ ?_); exact vc0); refine hK _ ?_; clear hK K; refine Run.nq ?_
  refine Run.nq ?_; refine Run.regionW hC (fun K hK => ?_); simp only [AW5, simprocAttr, hX]; (repeat (with_reducible refine And.intro ?_ ?_); exact vc0)
  refine FunA.callW hP hT (c_spec_l8Normal c w hc hw hl) (by simp only [AW5, simprocAttr]) ?_
  rintro rs o ⟨rfl, rfl⟩
  (try simp only [AW5, simprocAttr, hX]); (repeat (with_reducible refine And.intro ?_ ?_); exact vc0)
  (repeat (with_reducible refine And.intro ?_ ?_); exact vc0); refine hK _ ?_; clear hK K; refine Run.nq ?_
  refine Run.nq ?_; refine Run.regionW hC (fun K hK => ?_); simp only [AW5, simprocAttr, hX]; (repeat (with_reducible refine And.intro ?_ ?_); exact vc0); refine hK _ ?_; clear hK K; refine Run.nq ?_
  refine Run.nq ?_; refine Run.condW (by simp only [AW5, simprocAttr, hX]; rfl) (by simp only [AW5, simprocAttr, hX]) ?_ ?_
  · intro h
    have h : 15 < (redL c w).length := by simp at h; omega
    refine Run.nq ?_; refine Run.regionW hC (fun K hK => ?_); simp only [AW5, simprocAttr, hX]; (repeat (with_reducible refine And.intro ?_ ?_); exact vc0); refine hK _ ?_; clear hK K; refine Run.nq ?_
    refine Run.reK hpin [4, 5] [1] (by decide) (by simp) ?_; simp only [AR, AW5, simprocAttr]
    refine Run.retW [4, 5] (by decide) (by rw [hfn]; rfl) (by simp only [AW5, simprocAttr, hX]; rfl) (by simp only [AW5, simprocAttr, hX]) (hfin _ _ rfl rfl ?_)
    rw [if_neg (by omega), decide_eq_false (by omega)]; exact ⟨rfl, rfl⟩
  · intro h
    have h : (redL c w).length ≤ 15 := by simp at h; omega
    refine Run.nq ?_; refine Run.regionW hC (fun K hK => ?_); simp only [AW5, simprocAttr, hX]; (repeat (with_reducible refine And.intro ?_ ?_); exact vc0); refine hK _ ?_; clear hK K; refine Run.nq ?_
    refine Run.reK hpin [4, 5] [0] (by decide) (by simp) ?_; simp only [AR, AW5, simprocAttr]
    refine Run.retW [4, 5] (by decide) (by rw [hfn]; rfl) (by simp only [AW5, simprocAttr, hX]; rfl) (by simp only [AW5, simprocAttr, hX]) (hfin _ _ rfl rfl ?_)
    rw [if_pos h, decide_eq_true h]; exact ⟨rfl, rfl⟩

/-! ### The way down from a root -/

theorem sgn_nonneg {r : List Int} (h : sgnR r = 1) : ∀ x ∈ r, 0 ≤ x := by
  intro x hx
  have h1 := (sgnR_one.1 h).2
  unfold negA at h1
  rw [List.any_eq_false] at h1
  have := h1 x hx
  simp at this
  exact this
theorem hgt_nonneg : ∀ {r : List Int}, (∀ x ∈ r, 0 ≤ x) → 0 ≤ hgt r ∧ ∀ x ∈ r, x ≤ hgt r
  | [], _ => by simp [hgt]
  | y :: r, h => by
    obtain ⟨h1, h2⟩ := hgt_nonneg (r := r) fun x hx => h x (List.mem_cons_of_mem _ hx)
    have h0 := h y (by simp)
    refine ⟨by simp only [hgt]; omega, fun x hx => ?_⟩
    simp only [hgt]
    rcases List.mem_cons.1 hx with rfl | hx
    · omega
    · have := h2 x hx; omega
theorem hgt_zero : ∀ {r : List Int}, (∀ x ∈ r, 0 ≤ x) → hgt r = 0 → r = List.replicate r.length 0
  | [], _, _ => rfl
  | y :: r, h, h0 => by
    have h1 := h y (by simp)
    obtain ⟨h2, _⟩ := hgt_nonneg (r := r) fun x hx => h x (List.mem_cons_of_mem _ hx)
    simp only [hgt] at h0
    have := hgt_zero (r := r) (fun x hx => h x (List.mem_cons_of_mem _ hx)) (by omega)
    rw [List.length_cons, List.replicate_succ, ← this]
    congr 1
    omega
theorem hgt_one : ∀ {r : List Int}, (∀ x ∈ r, 0 ≤ x) → hgt r = 1 → ∃ i, i < r.length ∧ r = simL r.length i
  | [], _, h => by simp [hgt] at h
  | y :: r, h, h0 => by
    have h1 := h y (by simp)
    obtain ⟨h2, _⟩ := hgt_nonneg (r := r) fun x hx => h x (List.mem_cons_of_mem _ hx)
    simp only [hgt] at h0
    by_cases hy : y = 1
    · refine ⟨0, by simp, ?_⟩
      have := hgt_zero (r := r) (fun x hx => h x (List.mem_cons_of_mem _ hx)) (by omega)
      simp only [simL, List.length_cons, List.replicate_succ, List.set_cons_zero]
      rw [← this, hy]
    · obtain ⟨i, hi, hr⟩ := hgt_one (r := r) (fun x hx => h x (List.mem_cons_of_mem _ hx)) (by omega)
      refine ⟨i + 1, by simp; omega, ?_⟩
      simp only [simL, List.length_cons, List.replicate_succ, List.set_cons_succ]
      simp only [simL] at hr
      rw [← hr]
      congr 1
      omega
theorem hgt_rep : ∀ n, hgt (List.replicate n 0) = 0
  | 0 => rfl
  | n + 1 => by rw [List.replicate_succ, hgt, hgt_rep n]; rfl
theorem hgt_sim : ∀ (n i : Nat), i < n → hgt (simL n i) = 1
  | 0, i, h => by omega
  | n + 1, 0, _ => by simp only [simL, List.replicate_succ, List.set_cons_zero, hgt, hgt_rep]; rfl
  | n + 1, i + 1, h => by
    have := hgt_sim n i (by omega)
    simp only [simL] at this
    simp only [simL, List.replicate_succ, List.set_cons_succ, hgt, this]; rfl
theorem simL_get (n i k : Nat) (hi : i < n) : (simL n i).getD k 0 = if k = i then 1 else 0 := by
  unfold simL
  by_cases hk : k < n
  · rw [List.getD_eq_getElem?_getD, List.getElem?_set]
    by_cases h : i = k
    · subst h; simp [hi]
    · simp [h, Ne.symm h, hk]
  · rw [List.getD_eq_getElem?_getD, List.getElem?_eq_none (by simp; omega), if_neg (by omega)]; rfl
theorem simL_len (n i : Nat) : (simL n i).length = n := by simp [simL]
theorem simL_inj {n i j : Nat} (hi : i < n) (hj : j < n) (h : simL n i = simL n j) : i = j := by
  have h1 := simL_get n i i hi
  have h2 := simL_get n j i hj
  rw [h] at h1
  rw [h1, if_pos rfl] at h2
  by_cases hij : i = j
  · exact hij
  · rw [if_neg hij] at h2; cases h2
theorem idx_sim (n i : Nat) (hi : i < n) : idxN (simL n i) 1 (simL n i).length = i := by
  have h1 : ∀ m, m ≤ i → idxN (simL n i) 1 m = -1 := by
    intro m hm
    induction m with
    | zero => rfl
    | succ m ih =>
      simp only [idxN]
      rw [ih (by omega), if_pos (by omega), simL_get n i m hi, if_neg (by omega)]
  have h2 : idxN (simL n i) 1 (i + 1) = i := by
    simp only [idxN]
    rw [h1 i (Nat.le_refl _), if_pos (by omega), simL_get n i i hi, if_pos rfl, if_pos rfl]
  rw [idxN_more (simL n i) 1 (i + 1) _ (by rw [simL_len]; omega) (by rw [h2]; omega), h2]

/-- The first letter whose reflection makes a root lower. -/
def lowI (c : List (List Int)) (r : List Int) : Option Nat := (List.range c.length).find? fun i => decide (hgt (mirL c i r) < hgt r)
def simI (c : List (List Int)) (r : List Int) : Option Nat := (List.range c.length).find? fun i => r == simL c.length i
def rflP (c : List (List Int)) : Nat → List Int → List Int → Option (List Int × Nat)
  | k, r, p => match simI c r with
    | some i => some (p, i)
    | none => match k with
      | 0 => none
      | k + 1 => match lowI c r with
        | none => none
        | some i => if sgnR (mirL c i r) = 1 then rflP c k (mirL c i r) (p ++ [(i : Int)]) else none
noncomputable def rflO (c : List (List Int)) (r : List Int) : Option (List Int × Nat) := if wgtB c r && (sgnR r == 1) then rflP c 7 r [] else none
def rflL (c : List (List Int)) : Option (List Int × Nat) → List Int
  | some (p, i) => redL c (p ++ [(i : Int)] ++ p.reverse)
  | none => []
noncomputable def rflB (c : List (List Int)) (r : List Int) : Bool := (rflO c r).isSome && decide ((rflL c (rflO c r)).length ≤ 15)
noncomputable def rflX (c : List (List Int)) (r : List Int) : List Int := if rflB c r then rflL c (rflO c r) else []
theorem rflX_le (c : List (List Int)) (r : List Int) : (rflX c r).length ≤ 15 := by
  unfold rflX
  split
  · rename_i h
    simp only [rflB, Bool.and_eq_true, decide_eq_true_eq] at h
    exact h.2
  · simp

theorem find_some {n : Nat} {p : Nat → Bool} {i : Nat} (hi : i < n) (h : p i = true) (hj : ∀ j, j < i → p j = false) : (List.range n).find? p = some i := by
  rw [List.find?_range_eq_some]
  exact ⟨h, by simpa using hi, fun j hj' => by simp [hj j hj']⟩
theorem find_none {n : Nat} {p : Nat → Bool} (hj : ∀ j, j < n → p j = false) : (List.range n).find? p = none := by
  rw [List.find?_range_eq_none]
  exact fun j hj' => by simp [hj j hj']
theorem find_some' {n : Nat} {p : Nat → Bool} {i : Nat} (h : (List.range n).find? p = some i) : i < n ∧ p i = true ∧ ∀ j, j < i → p j = false := by
  rw [List.find?_range_eq_some] at h
  obtain ⟨h1, h2, h3⟩ := h
  exact ⟨by simpa using h2, h1, fun j hj => by simpa using h3 j hj⟩
theorem find_none' {n : Nat} {p : Nat → Bool} (h : (List.range n).find? p = none) : ∀ j, j < n → p j = false := by
  rw [List.find?_range_eq_none] at h
  exact fun j hj => by simpa using h j hj

theorem rflP_sim {c : List (List Int)} {r : List Int} {i : Nat} (h : simI c r = some i) (k : Nat) (p : List Int) : rflP c k r p = some (p, i) := by
  rw [rflP.eq_def]; simp only [h]
theorem rflP_zero {c : List (List Int)} {r : List Int} (h : simI c r = none) (p : List Int) : rflP c 0 r p = none := by
  rw [rflP.eq_def]; simp only [h]
theorem rflP_stop {c : List (List Int)} {r : List Int} (h : simI c r = none) (hl : lowI c r = none) (k : Nat) (p : List Int) : rflP c k r p = none := by
  rw [rflP.eq_def]; simp only [h]; cases k <;> simp only [hl]
theorem rflP_step {c : List (List Int)} {r : List Int} (h : simI c r = none) {i : Nat} (hl : lowI c r = some i) (k : Nat) (p : List Int) : rflP c (k + 1) r p = if sgnR (mirL c i r) = 1 then rflP c k (mirL c i r) (p ++ [(i : Int)]) else none := by
  rw [rflP.eq_def]; simp only [h, hl]

/-- A root on the way down. -/
structure Dn (c : List (List Int)) (r : List Int) : Prop where
  len : r.length = c.length
  sgn : sgnR r = 1
  hgt : hgt r ≤ 4000
theorem Dn.bnd {c : List (List Int)} {r : List Int} (h : Dn c r) : Bnd 4000 r := fun x hx => by
  have h1 := sgn_nonneg h.sgn
  have := h1 x hx
  have := (hgt_nonneg h1).2 x hx
  have := h.hgt
  omega
theorem Dn.next {c : List (List Int)} {r : List Int} (h : Dn c r) {i : Nat} (hi : lowI c r = some i) (hs : sgnR (mirL c i r) = 1) : Dn c (mirL c i r) := by
  have h1 := (find_some' hi).2.1
  have := h.hgt
  have h2 : Go.Proofs.Ytnhiamdnghgboaa.hgt (mirL c i r) < Go.Proofs.Ytnhiamdnghgboaa.hgt r := by simpa using h1
  exact ⟨by rw [mir_len]; exact h.len, hs, by omega⟩
theorem Dn.start {c : List (List Int)} {r : List Int} (hc : CartanP c) (hw : wgtP c r) (hs : sgnR r = 1) : Dn c r := by
  refine ⟨hw.1, hs, ?_⟩
  have hb : Bnd 1000 r := by
    intro x hx
    obtain ⟨k, hk, rfl⟩ := List.getElem_of_mem hx
    have := hw.2 k hk
    rwa [show r.getD k 0 = r[k] from by simp [hk]] at this
  have h1 := (hgt_bnd hb).2
  have := hw.1
  have := hc.2.1
  omega
theorem Dn.one {c : List (List Int)} {r : List Int} (h : Dn c r) (h1 : Go.Proofs.Ytnhiamdnghgboaa.hgt r = 1) : ∃ i, i < c.length ∧ r = simL c.length i ∧ simI c r = some i := by
  obtain ⟨i, hi, hr⟩ := hgt_one (sgn_nonneg h.sgn) h1
  rw [h.len] at hi hr
  refine ⟨i, hi, hr, find_some hi (by simpa using hr) fun j hj => ?_⟩
  cases hq : (r == simL c.length j) with
  | false => rfl
  | true =>
    have hq : r = simL c.length j := by simpa using hq
    have := simL_inj hi (Nat.lt_trans hj hi) (hr.symm.trans hq)
    omega
theorem Dn.notone {c : List (List Int)} {r : List Int} (h1 : ¬ Go.Proofs.Ytnhiamdnghgboaa.hgt r = 1) : simI c r = none := find_none fun j hj => by
  cases hq : (r == simL c.length j) with
  | false => rfl
  | true =>
    have hq : r = simL c.length j := by simpa using hq
    rw [hq, hgt_sim _ _ hj] at h1
    exact absurd rfl h1
def lowR (c : List (List Int)) (r : List Int) : List Int := match lowI c r with
  | some i => mirL c i r
  | none => []
def lowP (c : List (List Int)) (r p : List Int) : List Int := match lowI c r with
  | some i => p ++ [(i : Int)]
  | none => p
end Go.Proofs.Ytnhiamdnghgboaa

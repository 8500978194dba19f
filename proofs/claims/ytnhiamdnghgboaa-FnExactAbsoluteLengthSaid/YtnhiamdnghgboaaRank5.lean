/- Absolute length, products, the absolute order: what the functions of both sides do. -/
import Derived.Test.YtnhiamdnghgboaaRank4
set_option linter.unusedVariables false
set_option linter.unusedSimpArgs false
namespace Go.Proofs.Ytnhiamdnghgboaa
open Go Go.Aw Go.Cox

noncomputable def absN (c : List (List Int)) (w : List Int) : Int := if wordB c w && isF c then ((rkG rowI c.length (fxM c w) 0 0 : Nat) : Int) else -1
theorem absN_fix (c : List (List Int)) (w : List Int) : (fixN c w < 0 ∧ absN c w = -1) ∨ (0 ≤ fixN c w ∧ absN c w = (c.length : Int) - fixN c w ∧ fixN c w ≤ c.length) := by
  unfold fixN absN
  cases h : wordB c w && isF c with
  | false => left; simp
  | true =>
    right
    have hl := rkG_le rowI c.length (fxM c w) 0 0 (Nat.zero_le _)
    have e : (fxM c w).length = c.length := by simp [fxM]
    rw [e] at hl
    simp only [if_true]
    omega
theorem absN_bnd (c : List (List Int)) (w : List Int) : -1 ≤ absN c w ∧ absN c w ≤ 4 := by
  unfold absN
  cases h : wordB c w && isF c with
  | false => simp
  | true =>
    have hl := rkG_le rowI c.length (fxM c w) 0 0 (Nat.zero_le _)
    have e : (fxM c w).length = c.length := by simp [fxM]
    rw [e] at hl
    simp only [Bool.and_eq_true] at h
    have hn := (wordB_iff.1 h.1).1.2.1
    simp only [if_true]
    omega
noncomputable def mulB (c : List (List Int)) (a b : List Int) : Bool := wordB c a && wordB c b && decide ((redL c (a ++ b)).length ≤ 15)
noncomputable def mulX (c : List (List Int)) (a b : List Int) : List Int := if mulB c a b then redL c (a ++ b) else []
theorem mul_off {c : List (List Int)} {a b : List Int} (h : (wordB c a && wordB c b) = false) : mulB c a b = false ∧ mulX c a b = [] := by
  have : mulB c a b = false := by unfold mulB; rw [h]; rfl
  exact ⟨this, by simp [mulX, this]⟩
theorem mul_on {c : List (List Int)} {a b : List Int} (h : (wordB c a && wordB c b) = true) : mulB c a b = decide ((redL c (a ++ b)).length ≤ 15) ∧ mulX c a b = if (redL c (a ++ b)).length ≤ 15 then redL c (a ++ b) else [] := by
  have : mulB c a b = decide ((redL c (a ++ b)).length ≤ 15) := by unfold mulB; rw [h]; rfl
  exact ⟨this, by simp [mulX, this]⟩
theorem mulX_le (c : List (List Int)) (a b : List Int) : (mulX c a b).length ≤ 15 := by
  unfold mulX
  split
  · rename_i h; simp only [mulB, Bool.and_eq_true, decide_eq_true_eq] at h; exact h.2
  · simp

theorem c_impl_AbsoluteLength (c : List (List Int)) (w : List Int) (hcl : c.length ≤ 1048576) :
    FunA B 28 [.sl false (.row false) c, .sl false .int w] (fun rs o => rs = [.int .i64 (absN c w)] ∧ o = []) := by
  refine FunA.walk B_ok (fn := Try.f28) (fun vs w => Try.call28 vs w) Try.func28 rfl (by rw [Try.ntmps28]; simp) (fun C hC hP hT hΓ hbt hfn hpin hfin => ?_); have hX := BX; rw [← hΓ, ← hbt] at hX; rw [Try.ntmps28]; simp only [AW5, simprocAttr, hX]
  refine Run.nq ?_; refine Run.regionW hC (fun K hK => ?_); simp only [AW5, simprocAttr, hX]; (repeat (with_reducible refine And.intro ?_ ?_); exact vc0); refine hK _ ?_; clear hK K; refine Run.nq ?_
  refine Run.nq ?_; refine Run.regionW hC (fun K hK => ?_); simp only [AW5, simprocAttr, hX]; (repeat (with_reducible refine And.intro ?_ ?_); exact vc0)
  refine FunA.callW hP hT (c_impl_FixedRank c w hcl) (by simp only [AW5, simprocAttr]) ?_
  rintro rs o ⟨rfl, rfl⟩
  (try simp only [AW5, simprocAttr, hX]); (repeat (with_reducible refine And.intro ?_ ?_); exact vc0)
  (repeat (with_reducible refine And.intro ?_ ?_); exact vc0); refine hK _ ?_; clear hK K; refine Run.nq ?_
  refine Run.nq ?_; refine Run.regionW hC (fun K hK => ?_); simp only [AW5, simprocAttr, hX]; (repeat (with_reducible refine And.intro ?_ ?_); exact vc0); refine hK _ ?_; clear hK K; refine Run.nq ?_
  refine Run.nq ?_; refine Run.condW (by simp only [AW5, simprocAttr, hX]; rfl) (by simp only [AW5, simprocAttr, hX]) ?_ ?_
  · intro h
    have h : fixN c w < 0 := by rw [decide_eq_true_eq] at h; exact h
    have e : absN c w = -1 := by rcases absN_fix c w with h1 | h1 <;> omega
    refine Run.nq ?_; refine Run.regionW hC (fun K hK => ?_); simp only [AW5, simprocAttr, hX]; (repeat (with_reducible refine And.intro ?_ ?_); exact vc0); refine hK _ ?_; clear hK K; refine Run.nq ?_
    refine Run.retW [4] (by decide) (by rw [hfn]; rfl) (by simp only [AW5, simprocAttr, hX]; rfl) (by simp only [AW5, simprocAttr, hX]) (hfin _ _ rfl rfl ?_)
    rw [e]; exact ⟨rfl, rfl⟩
  intro h
  have h : ¬ fixN c w < 0 := by rw [decide_eq_false_iff_not] at h; exact h
  have e : absN c w = (c.length : Int) - fixN c w ∧ fixN c w ≤ c.length := by rcases absN_fix c w with h1 | h1 <;> omega
  refine Run.nq ?_; refine Run.regionW hC (fun K hK => ?_); simp (disch := omega) only [wrap_id, AW5, simprocAttr, hX]; (repeat (with_reducible refine And.intro ?_ ?_); exact vc0); refine hK _ ?_; clear hK K; refine Run.nq ?_
  refine Run.retW [4] (by decide) (by rw [hfn]; rfl) (by simp only [AW5, simprocAttr, hX]; rfl) (by simp only [AW5, simprocAttr, hX]) (hfin _ _ rfl rfl ?_)
  rw [e.1]; exact ⟨rfl, rfl⟩

theorem c_impl_MultiplyElements (c : List (List Int)) (a b : List Int) (hcl : c.length ≤ 1048576) :
    FunA B 87 [.sl false (.row false) c, .sl false .int a, .sl false .int b] (fun rs o => rs = [.own 0 0, .bool (mulB c a b)] ∧ o = [.arr .int (mulX c a b) 0 true]) := by
  refine FunA.walk B_ok (fn := Try.f87) (fun vs w => Try.call87 vs w) Try.func87 rfl (by rw [Try.ntmps87]; simp) (fun C hC hP hT hΓ hbt hfn hpin hfin => ?_); have hX := BX; rw [← hΓ, ← hbt] at hX; rw [Try.ntmps87]; simp only [AW5, simprocAttr, hX]
  refine Run.nq ?_; refine Run.regionW hC (fun K hK => ?_); simp only [AW5, simprocAttr, hX]; (repeat (with_reducible refine And.intro ?_ ?_); exact vc0); refine hK _ ?_; clear hK K; refine Run.nq ?_
  by_cases ha : wordB c a = true
  rotate_left
  · have ha : wordB c a = false := by simpa using ha
    obtain ⟨e1, e2⟩ := mul_off (c := c) (a := a) (b := b) (by rw [ha]; rfl)
    refine Run.nq ?_; refine Run.regionW hC (fun K hK => ?_); simp only [AW5, simprocAttr, hX]; (repeat (with_reducible refine And.intro ?_ ?_); exact vc0)
    refine FunA.callW hP hT (c_impl_IsWord c a) (by simp only [AW5, simprocAttr]) ?_
    rintro rs o ⟨rfl, rfl⟩
    simp only [ha]
    (try simp only [AW5, simprocAttr, hX]); (repeat (with_reducible refine And.intro ?_ ?_); exact vc0)
    refine .inl (CallG.off (.bool false) ?_)
    (try simp only [AW5, simprocAttr, hX]); (repeat (with_reducible refine And.intro ?_ ?_); exact vc0)
    (repeat (with_reducible refine And.intro ?_ ?_); exact vc0); refine hK _ ?_; clear hK K; refine Run.nq ?_
    refine Run.nq ?_; refine Run.condW (by simp only [AW5, simprocAttr, hX]; rfl) (by simp only [AW5, simprocAttr, hX]) ?_ ?_
    rotate_left
    · intro h; cases h
    intro _
    refine Run.nq ?_; refine Run.regionW hC (fun K hK => ?_); simp only [AW5, simprocAttr, hX]; (repeat (with_reducible refine And.intro ?_ ?_); exact vc0); refine hK _ ?_; clear hK K; refine Run.nq ?_
    refine Run.reK hpin [6, 7] [0] (by decide) (by simp) ?_; simp only [AR, AW5, simprocAttr]
    refine Run.retW [6, 7] (by decide) (by rw [hfn]; rfl) (by simp only [AW5, simprocAttr, hX]; rfl) (by simp only [AW5, simprocAttr, hX]) (hfin _ _ rfl rfl ?_)
    rw [e1, e2]; exact ⟨rfl, rfl⟩
  refine Run.nq ?_; refine Run.regionW hC (fun K hK => ?_); simp only [AW5, simprocAttr, hX]; (repeat (with_reducible refine And.intro ?_ ?_); exact vc0)
  refine FunA.callW hP hT (c_impl_IsWord c a) (by simp only [AW5, simprocAttr]) ?_
  rintro rs o ⟨rfl, rfl⟩
  simp only [ha]
  (try simp only [AW5, simprocAttr, hX]); (repeat (with_reducible refine And.intro ?_ ?_); exact vc0)
  refine .inr ⟨rfl, ?_⟩
  refine FunA.callW hP hT (c_impl_IsWord c b) (by simp only [AW5, simprocAttr]) ?_
  rintro rs o ⟨rfl, rfl⟩
  (try simp only [AW5, simprocAttr, hX]); (repeat (with_reducible refine And.intro ?_ ?_); exact vc0)
  (repeat (with_reducible refine And.intro ?_ ?_); exact vc0); refine hK _ ?_; clear hK K; refine Run.nq ?_
  refine Run.nq ?_; refine Run.condW (by simp only [AW5, simprocAttr, hX]; rfl) (by simp only [AW5, simprocAttr, hX]) ?_ ?_
  · intro h
    have hb : wordB c b = false := by simpa using h
    obtain ⟨e1, e2⟩ := mul_off (c := c) (a := a) (b := b) (by rw [ha, hb]; rfl)
    refine Run.nq ?_; refine Run.regionW hC (fun K hK => ?_); simp only [AW5, simprocAttr, hX]; (repeat (with_reducible refine And.intro ?_ ?_); exact vc0); refine hK _ ?_; clear hK K; refine Run.nq ?_
    refine Run.reK hpin [6, 7] [0] (by decide) (by simp) ?_; simp only [AR, AW5, simprocAttr]
    refine Run.retW [6, 7] (by decide) (by rw [hfn]; rfl) (by simp only [AW5, simprocAttr, hX]; rfl) (by simp only [AW5, simprocAttr, hX]) (hfin _ _ rfl rfl ?_)
    rw [e1, e2]; exact ⟨rfl, rfl⟩
  intro h
  have hb : wordB c b = true := by simpa using h
  obtain ⟨e1, e2⟩ := mul_on (c := c) (a := a) (b := b) (by rw [ha, hb]; rfl)
  obtain ⟨hc, a1, a2⟩ := wordB_iff.1 ha
  obtain ⟨_, b1, b2⟩ := wordB_iff.1 hb
  have hlet : letters c.length (a ++ b) := letters_append.2 ⟨a2, b2⟩
  have hll : (a ++ b).length ≤ 30 := by simp; omega
  refine Run.nq ?_; refine Run.regionW hC (fun K hK => ?_); simp only [AW5, simprocAttr, hX]; (repeat (with_reducible refine And.intro ?_ ?_); exact vc0)
  refine FunA.callW hP hT (c_impl_ConcatWords a b (by omega) (by omega)) (by simp only [AW5, simprocAttr]) ?_
  rintro rs o ⟨nn2, rfl, rfl⟩
  (try simp only [AW5, simprocAttr, hX]); (repeat (with_reducible refine And.intro ?_ ?_); exact vc0)
  refine FunA.callW hP hT (c_impl_reduced c (a ++ b) hc hlet (by omega)) (by simp only [AW5, simprocAttr]) ?_
  rintro rs o ⟨rfl, rfl⟩
  (try simp only [AW5, simprocAttr, hX]); (repeat (with_reducible refine And.intro ?_ ?_); exact vc0)
  (repeat (with_reducible refine And.intro ?_ ?_); exact vc0); refine hK _ ?_; clear hK K; refine Run.nq ?_
  refine Run.nq ?_; refine Run.regionW hC (fun K hK => ?_); simp only [AW5, simprocAttr, hX]; (repeat (with_reducible refine And.intro ?_ ?_); exact vc0); refine hK _ ?_; clear hK K; refine Run.nq ?_
  refine Run.nq ?_; refine Run.condW (by simp only [AW5, simprocAttr, hX]; rfl) (by simp only [AW5, simprocAttr, hX]) ?_ ?_
  · intro h
    have h : ¬ (redL c (a ++ b)).length ≤ 15 := by simp at h; omega
    refine Run.nq ?_; refine Run.regionW hC (fun K hK => ?_); simp only [AW5, simprocAttr, hX]; (repeat (with_reducible refine And.intro ?_ ?_); exact vc0); refine hK _ ?_; clear hK K; refine Run.nq ?_
    refine Run.reK hpin [6, 7] [2] (by decide) (by simp) ?_; simp only [AR, AW5, simprocAttr]
    refine Run.retW [6, 7] (by decide) (by rw [hfn]; rfl) (by simp only [AW5, simprocAttr, hX]; rfl) (by simp only [AW5, simprocAttr, hX]) (hfin _ _ rfl rfl ?_)
    rw [e1, e2, if_neg h]; exact ⟨by simp [h], rfl⟩
  intro h
  have h : (redL c (a ++ b)).length ≤ 15 := by simp at h; omega
  refine Run.nq ?_; refine Run.regionW hC (fun K hK => ?_); simp only [AW5, simprocAttr, hX]; (repeat (with_reducible refine And.intro ?_ ?_); exact vc0); refine hK _ ?_; clear hK K; refine Run.nq ?_
  refine Run.reK hpin [6, 7] [1] (by decide) (by simp) ?_; simp only [AR, AW5, simprocAttr]
  refine Run.retW [6, 7] (by decide) (by rw [hfn]; rfl) (by simp only [AW5, simprocAttr, hX]; rfl) (by simp only [AW5, simprocAttr, hX]) (hfin _ _ rfl rfl ?_)
  rw [e1, e2, if_pos h]; exact ⟨by simp [h], rfl⟩

theorem c_spec_AbsoluteLength (c : List (List Int)) (w : List Int) (hcl : c.length ≤ 1048576) :
    FunA B 27 [.sl false (.row false) c, .sl false .int w] (fun rs o => rs = [.int .i64 (absN c w)] ∧ o = []) := by
  refine FunA.walk B_ok (fn := Try.f27) (fun vs w => Try.call27 vs w) Try.func27 rfl (by rw [Try.ntmps27]; simp) (fun C hC hP hT hΓ hbt hfn hpin hfin => ?_); have hX := BX; rw [← hΓ, ← hbt] at hX; rw [Try.ntmps27]; simp only [AW5, simprocAttr, hX]
  refine Run.nq ?_; refine Run.regionW hC (fun K hK => ?_); simp only [AW5, simprocAttr, hX]; (repeat (with_reducible refine And.intro ?_ ?_); exact vc0); refine hK _ ?_; clear hK K; refine Run.nq ?_
  refine Run.nq ?_; refine Run.regionW hC (fun K hK => ?_); simp only [AW5, simprocAttr, hX]; (repeat (with_reducible refine And.intro ?_ ?_); exact vc0)
  refine FunA.callW hP hT (c_spec_FixedRank c w hcl) (by simp only [AW5, simprocAttr]) ?_
  rintro rs o ⟨rfl, rfl⟩
  (try simp only [AW5, simprocAttr, hX]); (repeat (with_reducible refine And.intro ?_ ?_); exact vc0)
  (repeat (with_reducible refine And.intro ?_ ?_); exact vc0); refine hK _ ?_; clear hK K; refine Run.nq ?_
  refine Run.nq ?_; refine Run.regionW hC (fun K hK => ?_); simp only [AW5, simprocAttr, hX]; (repeat (with_reducible refine And.intro ?_ ?_); exact vc0); refine hK _ ?_; clear hK K; refine Run.nq ?_
  refine Run.nq ?_; refine Run.condW (by simp only [AW5, simprocAttr, hX]; rfl) (by simp only [AW5, simprocAttr, hX]) ?_ ?_
  · intro h
    have h : fixN c w < 0 := by rw [decide_eq_true_eq] at h; exact h
    have e : absN c w = -1 := by rcases absN_fix c w with h1 | h1 <;> omega
    refine Run.nq ?_; refine Run.regionW hC (fun K hK => ?_); simp only [AW5, simprocAttr, hX]; (repeat (with_reducible refine And.intro ?_ ?_); exact vc0); refine hK _ ?_; clear hK K; refine Run.nq ?_
    refine Run.retW [4] (by decide) (by rw [hfn]; rfl) (by simp only [AW5, simprocAttr, hX]; rfl) (by simp only [AW5, simprocAttr, hX]) (hfin _ _ rfl rfl ?_)
    rw [e]; exact ⟨rfl, rfl⟩
  intro h
  have h : ¬ fixN c w < 0 := by rw [decide_eq_false_iff_not] at h; exact h
  have e : absN c w = (c.length : Int) - fixN c w ∧ fixN c w ≤ c.length := by rcases absN_fix c w with h1 | h1 <;> omega
  refine Run.nq ?_; refine Run.regionW hC (fun K hK => ?_); simp (disch := omega) only [wrap_id, AW5, simprocAttr, hX]; (repeat (with_reducible refine And.intro ?_ ?_); exact vc0); refine hK _ ?_; clear hK K; refine Run.nq ?_
  refine Run.retW [4] (by decide) (by rw [hfn]; rfl) (by simp only [AW5, simprocAttr, hX]; rfl) (by simp only [AW5, simprocAttr, hX]) (hfin _ _ rfl rfl ?_)
  rw [e.1]; exact ⟨rfl, rfl⟩

theorem c_spec_MultiplyElements (c : List (List Int)) (a b : List Int) (hcl : c.length ≤ 1048576) :
    FunA B 86 [.sl false (.row false) c, .sl false .int a, .sl false .int b] (fun rs o => rs = [.own 0 0, .bool (mulB c a b)] ∧ o = [.arr .int (mulX c a b) 0 true]) := by
  refine FunA.walk B_ok (fn := Try.f86) (fun vs w => Try.call86 vs w) Try.func86 rfl (by rw [Try.ntmps86]; simp) (fun C hC hP hT hΓ hbt hfn hpin hfin => ?_); have hX := BX; rw [← hΓ, ← hbt] at hX; rw [Try.ntmps86]; simp only [AW5, simprocAttr, hX]
  refine Run.nq ?_; refine Run.regionW hC (fun K hK => ?_); simp only [AW5, simprocAttr, hX]; (repeat (with_reducible refine And.intro ?_ ?_); exact vc0); refine hK _ ?_; clear hK K; refine Run.nq ?_
  by_cases ha : wordB c a = true
  rotate_left
  · have ha : wordB c a = false := by simpa using ha
    obtain ⟨e1, e2⟩ := mul_off (c := c) (a := a) (b := b) (by rw [ha]; rfl)
    refine Run.nq ?_; refine Run.regionW hC (fun K hK => ?_); simp only [AW5, simprocAttr, hX]; (repeat (with_reducible refine And.intro ?_ ?_); exact vc0)
    refine FunA.callW hP hT (c_spec_IsWord c a hcl) (by simp only [AW5, simprocAttr]) ?_
    rintro rs o ⟨rfl, rfl⟩
    simp only [ha]
    (try simp only [AW5, simprocAttr, hX]); (repeat (with_reducible refine And.intro ?_ ?_); exact vc0)
    refine .inl (CallG.off (.bool false) ?_)
    (try simp only [AW5, simprocAttr, hX]); (repeat (with_reducible refine And.intro ?_ ?_); exact vc0)
    (repeat (with_reducible refine And.intro ?_ ?_); exact vc0); refine hK _ ?_; clear hK K; refine Run.nq ?_
    refine Run.nq ?_; refine Run.condW (by simp only [AW5, simprocAttr, hX]; rfl) (by simp only [AW5, simprocAttr, hX]) ?_ ?_
    rotate_left
    · intro h; cases h
    intro _
    refine Run.nq ?_; refine Run.regionW hC (fun K hK => ?_); simp only [AW5, simprocAttr, hX]; (repeat (with_reducible refine And.intro ?_ ?_); exact vc0); refine hK _ ?_; clear hK K; refine Run.nq ?_
    refine Run.reK hpin [6, 7] [0] (by decide) (by simp) ?_; simp only [AR, AW5, simprocAttr]
    refine Run.retW [6, 7] (by decide) (by rw [hfn]; rfl) (by simp only [AW5, simprocAttr, hX]; rfl) (by simp only [AW5, simprocAttr, hX]) (hfin _ _ rfl rfl ?_)
    rw [e1, e2]; exact ⟨rfl, rfl⟩
  refine Run.nq ?_; refine Run.regionW hC (fun K hK => ?_); simp only [AW5, simprocAttr, hX]; (repeat (with_reducible refine And.intro ?_ ?_); exact vc0)
  refine FunA.callW hP hT (c_spec_IsWord c a hcl) (by simp only [AW5, simprocAttr]) ?_
  rintro rs o ⟨rfl, rfl⟩
  simp only [ha]
  (try simp only [AW5, simprocAttr, hX]); (repeat (with_reducible refine And.intro ?_ ?_); exact vc0)
  refine .inr ⟨rfl, ?_⟩
  refine FunA.callW hP hT (c_spec_IsWord c b hcl) (by simp only [AW5, simprocAttr]) ?_
  rintro rs o ⟨rfl, rfl⟩
  (try simp only [AW5, simprocAttr, hX]); (repeat (with_reducible refine And.intro ?_ ?_); exact vc0)
  (repeat (with_reducible refine And.intro ?_ ?_); exact vc0); refine hK _ ?_; clear hK K; refine Run.nq ?_
  refine Run.nq ?_; refine Run.condW (by simp only [AW5, simprocAttr, hX]; rfl) (by simp only [AW5, simprocAttr, hX]) ?_ ?_
  · intro h
    have hb : wordB c b = false := by simpa using h
    obtain ⟨e1, e2⟩ := mul_off (c := c) (a := a) (b := b) (by rw [ha, hb]; rfl)
    refine Run.nq ?_; refine Run.regionW hC (fun K hK => ?_); simp only [AW5, simprocAttr, hX]; (repeat (with_reducible refine And.intro ?_ ?_); exact vc0); refine hK _ ?_; clear hK K; refine Run.nq ?_
    refine Run.reK hpin [6, 7] [0] (by decide) (by simp) ?_; simp only [AR, AW5, simprocAttr]
    refine Run.retW [6, 7] (by decide) (by rw [hfn]; rfl) (by simp only [AW5, simprocAttr, hX]; rfl) (by simp only [AW5, simprocAttr, hX]) (hfin _ _ rfl rfl ?_)
    rw [e1, e2]; exact ⟨rfl, rfl⟩
  intro h
  have hb : wordB c b = true := by simpa using h
  obtain ⟨e1, e2⟩ := mul_on (c := c) (a := a) (b := b) (by rw [ha, hb]; rfl)
  obtain ⟨hc, a1, a2⟩ := wordB_iff.1 ha
  obtain ⟨_, b1, b2⟩ := wordB_iff.1 hb
  have hlet : letters c.length (a ++ b) := letters_append.2 ⟨a2, b2⟩
  have hll : (a ++ b).length ≤ 30 := by simp; omega
  refine Run.nq ?_; refine Run.regionW hC (fun K hK => ?_); simp only [AW5, simprocAttr, hX]; (repeat (with_reducible refine And.intro ?_ ?_); exact vc0)
  refine FunA.callW hP hT (c_spec_ConcatWords a b (by omega) (by omega)) (by simp only [AW5, simprocAttr]) ?_
  rintro rs o ⟨rfl, rfl⟩
  (try simp only [AW5, simprocAttr, hX]); (repeat (with_reducible refine And.intro ?_ ?_); exact vc0)
  refine FunA.callW hP hT (c_spec_l9Fit c (a ++ b) hc hlet (by omega)) (by simp only [AW5, simprocAttr]) ?_
  rintro rs o ⟨rfl, rfl⟩
  (try simp only [AW5, simprocAttr, hX]); (repeat (with_reducible refine And.intro ?_ ?_); exact vc0)
  (repeat (with_reducible refine And.intro ?_ ?_); exact vc0); refine hK _ ?_; clear hK K; refine Run.nq ?_
  refine Run.nq ?_; refine Run.regionW hC (fun K hK => ?_); simp only [AW5, simprocAttr, hX]; (repeat (with_reducible refine And.intro ?_ ?_); exact vc0); refine hK _ ?_; clear hK K; refine Run.nq ?_
  refine Run.reK hpin [6, 7] [1] (by decide) (by simp) ?_; simp only [AR, AW5, simprocAttr]
  refine Run.retW [6, 7] (by decide) (by rw [hfn]; rfl) (by simp only [AW5, simprocAttr, hX]; rfl) (by simp only [AW5, simprocAttr, hX]) (hfin _ _ rfl rfl ?_)
  rw [e1, e2]; exact ⟨rfl, rfl⟩

theorem word_rev {c : List (List Int)} {u : List Int} (h : wordB c u = true) : wordB c u.reverse = true := by
  obtain ⟨h1, h2, h3⟩ := wordB_iff.1 h
  exact wordB_iff.2 ⟨h1, by simpa using h2, letters_reverse h3⟩
noncomputable def abB (c : List (List Int)) (u v : List Int) : Bool := wordB c u && wordB c v && isF c && mulB c u.reverse v && (absN c u + absN c (mulX c u.reverse v) == absN c v)

set_option maxHeartbeats 1000000 in
theorem c_impl_IsAbsoluteBelow (c : List (List Int)) (u v : List Int) (hcl : c.length ≤ 1048576) :
    FunA B 36 [.sl false (.row false) c, .sl false .int u, .sl false .int v] (fun rs o => rs = [.bool (abB c u v)] ∧ o = []) := by
  refine FunA.walk B_ok (fn := Try.f36) (fun vs w => Try.call36 vs w) Try.func36 rfl (by rw [Try.ntmps36]; simp) (fun C hC hP hT hΓ hbt hfn hpin hfin => ?_); have hX := BX; rw [← hΓ, ← hbt] at hX; rw [Try.ntmps36]; simp only [AW5, simprocAttr, hX]
  refine Run.nq ?_; refine Run.regionW hC (fun K hK => ?_); simp only [AW5, simprocAttr, hX]; (repeat (with_reducible refine And.intro ?_ ?_); exact vc0); refine hK _ ?_; clear hK K; refine Run.nq ?_
  by_cases hu : wordB c u = true
  rotate_left
  · have hu : wordB c u = false := by simpa using hu
    have e : abB c u v = false := by unfold abB; rw [hu]; rfl
    refine Run.nq ?_; refine Run.regionW hC (fun K hK => ?_); simp only [AW5, simprocAttr, hX]; (repeat (with_reducible refine And.intro ?_ ?_); exact vc0)
    refine FunA.callW hP hT (c_impl_IsWord c u) (by simp only [AW5, simprocAttr]) ?_
    rintro rs o ⟨rfl, rfl⟩
    simp only [hu]
    (try simp only [AW5, simprocAttr, hX]); (repeat (with_reducible refine And.intro ?_ ?_); exact vc0)
    refine .inl (CallG.off (.bool false) ?_)
    (try simp only [AW5, simprocAttr, hX]); (repeat (with_reducible refine And.intro ?_ ?_); exact vc0)
    refine .inl (CallG.off (.bool false) ?_)
    (try simp only [AW5, simprocAttr, hX]); (repeat (with_reducible refine And.intro ?_ ?_); exact vc0)
    (repeat (with_reducible refine And.intro ?_ ?_); exact vc0); refine hK _ ?_; clear hK K; refine Run.nq ?_
    refine Run.nq ?_; refine Run.condW (by simp only [AW5, simprocAttr, hX]; rfl) (by simp only [AW5, simprocAttr, hX]) ?_ ?_
    rotate_left
    · intro h; cases h
    intro _
    refine Run.nq ?_; refine Run.regionW hC (fun K hK => ?_); simp only [AW5, simprocAttr, hX]; (repeat (with_reducible refine And.intro ?_ ?_); exact vc0); refine hK _ ?_; clear hK K; refine Run.nq ?_
    refine Run.retW [6] (by decide) (by rw [hfn]; rfl) (by simp only [AW5, simprocAttr, hX]; rfl) (by simp only [AW5, simprocAttr, hX]) (hfin _ _ rfl rfl ?_)
    rw [e]; exact ⟨rfl, rfl⟩
  by_cases hv : wordB c v = true
  rotate_left
  · have hv : wordB c v = false := by simpa using hv
    have e : abB c u v = false := by unfold abB; rw [hu, hv]; rfl
    refine Run.nq ?_; refine Run.regionW hC (fun K hK => ?_); simp only [AW5, simprocAttr, hX]; (repeat (with_reducible refine And.intro ?_ ?_); exact vc0)
    refine FunA.callW hP hT (c_impl_IsWord c u) (by simp only [AW5, simprocAttr]) ?_
    rintro rs o ⟨rfl, rfl⟩
    simp only [hu]
    (try simp only [AW5, simprocAttr, hX]); (repeat (with_reducible refine And.intro ?_ ?_); exact vc0)
    refine .inr ⟨rfl, ?_⟩
    refine FunA.callW hP hT (c_impl_IsWord c v) (by simp only [AW5, simprocAttr]) ?_
    rintro rs o ⟨rfl, rfl⟩
    simp only [hv]
    (try simp only [AW5, simprocAttr, hX]); (repeat (with_reducible refine And.intro ?_ ?_); exact vc0)
    refine .inl (CallG.off (.bool false) ?_)
    (try simp only [AW5, simprocAttr, hX]); (repeat (with_reducible refine And.intro ?_ ?_); exact vc0)
    (repeat (with_reducible refine And.intro ?_ ?_); exact vc0); refine hK _ ?_; clear hK K; refine Run.nq ?_
    refine Run.nq ?_; refine Run.condW (by simp only [AW5, simprocAttr, hX]; rfl) (by simp only [AW5, simprocAttr, hX]) ?_ ?_
    rotate_left
    · intro h; cases h
    intro _
    refine Run.nq ?_; refine Run.regionW hC (fun K hK => ?_); simp only [AW5, simprocAttr, hX]; (repeat (with_reducible refine And.intro ?_ ?_); exact vc0); refine hK _ ?_; clear hK K; refine Run.nq ?_
    refine Run.retW [6] (by decide) (by rw [hfn]; rfl) (by simp only [AW5, simprocAttr, hX]; rfl) (by simp only [AW5, simprocAttr, hX]) (hfin _ _ rfl rfl ?_)
    rw [e]; exact ⟨rfl, rfl⟩
  refine Run.nq ?_; refine Run.regionW hC (fun K hK => ?_); simp only [AW5, simprocAttr, hX]; (repeat (with_reducible refine And.intro ?_ ?_); exact vc0)
  refine FunA.callW hP hT (c_impl_IsWord c u) (by simp only [AW5, simprocAttr]) ?_
  rintro rs o ⟨rfl, rfl⟩
  simp only [hu]
  (try simp only [AW5, simprocAttr, hX]); (repeat (with_reducible refine And.intro ?_ ?_); exact vc0)
  refine .inr ⟨rfl, ?_⟩
  refine FunA.callW hP hT (c_impl_IsWord c v) (by simp only [AW5, simprocAttr]) ?_
  rintro rs o ⟨rfl, rfl⟩
  simp only [hv]
  (try simp only [AW5, simprocAttr, hX]); (repeat (with_reducible refine And.intro ?_ ?_); exact vc0)
  refine .inr ⟨rfl, ?_⟩
  refine FunA.callW hP hT (c_impl_IsFinite c) (by simp only [AW5, simprocAttr]) ?_
  rintro rs o ⟨rfl, rfl⟩
  (try simp only [AW5, simprocAttr, hX]); (repeat (with_reducible refine And.intro ?_ ?_); exact vc0)
  (repeat (with_reducible refine And.intro ?_ ?_); exact vc0); refine hK _ ?_; clear hK K; refine Run.nq ?_
  refine Run.nq ?_; refine Run.condW (by simp only [AW5, simprocAttr, hX]; rfl) (by simp only [AW5, simprocAttr, hX]) ?_ ?_
  · intro h
    have hf : isF c = false := by simpa using h
    have e : abB c u v = false := by unfold abB; rw [hu, hv, hf]; rfl
    refine Run.nq ?_; refine Run.regionW hC (fun K hK => ?_); simp only [AW5, simprocAttr, hX]; (repeat (with_reducible refine And.intro ?_ ?_); exact vc0); refine hK _ ?_; clear hK K; refine Run.nq ?_
    refine Run.retW [6] (by decide) (by rw [hfn]; rfl) (by simp only [AW5, simprocAttr, hX]; rfl) (by simp only [AW5, simprocAttr, hX]) (hfin _ _ rfl rfl ?_)
    rw [e]; exact ⟨rfl, rfl⟩
  intro h
  have hf : isF c = true := by simpa using h
  obtain ⟨hc, u1, u2⟩ := wordB_iff.1 hu
  have e : abB c u v = (mulB c u.reverse v && (absN c u + absN c (mulX c u.reverse v) == absN c v)) := by unfold abB; rw [hu, hv, hf]; rfl
  have hx := mulX_le c u.reverse v
  have n1 := absN_bnd c u
  have n2 := absN_bnd c v
  have n3 := absN_bnd c (mulX c u.reverse v)
  refine Run.nq ?_; refine Run.regionW hC (fun K hK => ?_); simp only [AW5, simprocAttr, hX]; (repeat (with_reducible refine And.intro ?_ ?_); exact vc0)
  refine FunA.callW hP hT (c_impl_ReverseWord u (by omega)) (by simp only [AW5, simprocAttr]) ?_
  rintro rs o ⟨rfl, rfl⟩
  (try simp only [AW5, simprocAttr, hX]); (repeat (with_reducible refine And.intro ?_ ?_); exact vc0)
  refine FunA.callW hP hT (c_impl_MultiplyElements c u.reverse v hcl) (by simp only [AW5, simprocAttr]) ?_
  rintro rs o ⟨rfl, rfl⟩
  (try simp only [AW5, simprocAttr, hX]); (repeat (with_reducible refine And.intro ?_ ?_); exact vc0)
  (repeat (with_reducible refine And.intro ?_ ?_); exact vc0); refine hK _ ?_; clear hK K; refine Run.nq ?_
  cases hm : mulB c u.reverse v with
  | false =>
    refine Run.nq ?_; refine Run.regionW hC (fun K hK => ?_); simp only [AW5, simprocAttr, hX]; (repeat (with_reducible refine And.intro ?_ ?_); exact vc0)
    refine .inl (CallG.off (.int .i64 0) ?_)
    (try simp only [AW5, simprocAttr, hX]); (repeat (with_reducible refine And.intro ?_ ?_); exact vc0)
    refine .inl (CallG.off (.int .i64 0) ?_)
    (try simp only [AW5, simprocAttr, hX]); (repeat (with_reducible refine And.intro ?_ ?_); exact vc0)
    refine .inl (CallG.off (.int .i64 0) ?_)
    (try simp only [AW5, simprocAttr, hX]); (repeat (with_reducible refine And.intro ?_ ?_); exact vc0)
    (repeat (with_reducible refine And.intro ?_ ?_); exact vc0); refine hK _ ?_; clear hK K; refine Run.nq ?_
    refine Run.reK hpin [6] [] (by decide) (by simp) ?_; simp only [AR, AW5, simprocAttr]
    refine Run.retW [6] (by decide) (by rw [hfn]; rfl) (by simp only [AW5, simprocAttr, hX]; rfl) (by simp only [AW5, simprocAttr, hX]) (hfin _ _ rfl rfl ?_)
    rw [e, hm]; exact ⟨rfl, rfl⟩
  | true =>
    refine Run.nq ?_; refine Run.regionW hC (fun K hK => ?_); simp only [AW5, simprocAttr, hX]; (repeat (with_reducible refine And.intro ?_ ?_); exact vc0)
    refine .inr ⟨rfl, ?_⟩
    refine FunA.callW hP hT (c_impl_AbsoluteLength c u hcl) (by simp only [AW5, simprocAttr]) ?_
    rintro rs o ⟨rfl, rfl⟩
    (try simp only [AW5, simprocAttr, hX]); (repeat (with_reducible refine And.intro ?_ ?_); exact vc0)
    refine .inr ⟨rfl, ?_⟩
    refine FunA.callW hP hT (c_impl_AbsoluteLength c (mulX c u.reverse v) hcl) (by simp only [AW5, simprocAttr]) ?_
    rintro rs o ⟨rfl, rfl⟩
    simp (disch := omega) only [wrap_id, AW5, simprocAttr, hX]; (repeat (with_reducible refine And.intro ?_ ?_); exact vc0)
    refine .inr ⟨rfl, ?_⟩
    refine FunA.callW hP hT (c_impl_AbsoluteLength c v hcl) (by simp only [AW5, simprocAttr]) ?_
    rintro rs o ⟨rfl, rfl⟩
    (try simp only [AW5, simprocAttr, hX]); (repeat (with_reducible refine And.intro ?_ ?_); exact vc0)
    (repeat (with_reducible refine And.intro ?_ ?_); exact vc0); refine hK _ ?_; clear hK K; refine Run.nq ?_
    refine Run.reK hpin [6] [] (by decide) (by simp) ?_; simp only [AR, AW5, simprocAttr]
    refine Run.retW [6] (by decide) (by rw [hfn]; rfl) (by simp only [AW5, simprocAttr, hX]; rfl) (by simp only [AW5, simprocAttr, hX]) (hfin _ _ rfl rfl ?_)
    rw [e, hm]; exact ⟨rfl, rfl⟩

set_option maxHeartbeats 1000000 in
theorem c_spec_IsAbsoluteBelow (c : List (List Int)) (u v : List Int) (hcl : c.length ≤ 1048576) :
    FunA B 35 [.sl false (.row false) c, .sl false .int u, .sl false .int v] (fun rs o => rs = [.bool (abB c u v)] ∧ o = []) := by
  refine FunA.walk B_ok (fn := Try.f35) (fun vs w => Try.call35 vs w) Try.func35 rfl (by rw [Try.ntmps35]; simp) (fun C hC hP hT hΓ hbt hfn hpin hfin => ?_); have hX := BX; rw [← hΓ, ← hbt] at hX; rw [Try.ntmps35]; simp only [AW5, simprocAttr, hX]
  refine Run.nq ?_; refine Run.regionW hC (fun K hK => ?_); simp only [AW5, simprocAttr, hX]; (repeat (with_reducible refine And.intro ?_ ?_); exact vc0); refine hK _ ?_; clear hK K; refine Run.nq ?_
  by_cases hu : wordB c u = true
  rotate_left
  · have hu : wordB c u = false := by simpa using hu
    have e : abB c u v = false := by unfold abB; rw [hu]; rfl
    refine Run.nq ?_; refine Run.regionW hC (fun K hK => ?_); simp only [AW5, simprocAttr, hX]; (repeat (with_reducible refine And.intro ?_ ?_); exact vc0)
    refine FunA.callW hP hT (c_spec_IsWord c u hcl) (by simp only [AW5, simprocAttr]) ?_
    rintro rs o ⟨rfl, rfl⟩
    simp only [hu]
    (try simp only [AW5, simprocAttr, hX]); (repeat (with_reducible refine And.intro ?_ ?_); exact vc0)
    refine .inl (CallG.off (.bool false) ?_)
    (try simp only [AW5, simprocAttr, hX]); (repeat (with_reducible refine And.intro ?_ ?_); exact vc0)
    refine .inl (CallG.off (.bool false) ?_)
    (try simp only [AW5, simprocAttr, hX]); (repeat (with_reducible refine And.intro ?_ ?_); exact vc0)
    (repeat (with_reducible refine And.intro ?_ ?_); exact vc0); refine hK _ ?_; clear hK K; refine Run.nq ?_
    refine Run.nq ?_; refine Run.condW (by simp only [AW5, simprocAttr, hX]; rfl) (by simp only [AW5, simprocAttr, hX]) ?_ ?_
    rotate_left
    · intro h; cases h
    intro _
    refine Run.nq ?_; refine Run.regionW hC (fun K hK => ?_); simp only [AW5, simprocAttr, hX]; (repeat (with_reducible refine And.intro ?_ ?_); exact vc0); refine hK _ ?_; clear hK K; refine Run.nq ?_
    refine Run.retW [6] (by decide) (by rw [hfn]; rfl) (by simp only [AW5, simprocAttr, hX]; rfl) (by simp only [AW5, simprocAttr, hX]) (hfin _ _ rfl rfl ?_)
    rw [e]; exact ⟨rfl, rfl⟩
  by_cases hv : wordB c v = true
  rotate_left
  · have hv : wordB c v = false := by simpa using hv
    have e : abB c u v = false := by unfold abB; rw [hu, hv]; rfl
    refine Run.nq ?_; refine Run.regionW hC (fun K hK => ?_); simp only [AW5, simprocAttr, hX]; (repeat (with_reducible refine And.intro ?_ ?_); exact vc0)
    refine FunA.callW hP hT (c_spec_IsWord c u hcl) (by simp only [AW5, simprocAttr]) ?_
    rintro rs o ⟨rfl, rfl⟩
    simp only [hu]
    (try simp only [AW5, simprocAttr, hX]); (repeat (with_reducible refine And.intro ?_ ?_); exact vc0)
    refine .inr ⟨rfl, ?_⟩
    refine FunA.callW hP hT (c_spec_IsWord c v hcl) (by simp only [AW5, simprocAttr]) ?_
    rintro rs o ⟨rfl, rfl⟩
    simp only [hv]
    (try simp only [AW5, simprocAttr, hX]); (repeat (with_reducible refine And.intro ?_ ?_); exact vc0)
    refine .inl (CallG.off (.bool false) ?_)
    (try simp only [AW5, simprocAttr, hX]); (repeat (with_reducible refine And.intro ?_ ?_); exact vc0)
    (repeat (with_reducible refine And.intro ?_ ?_); exact vc0); refine hK _ ?_; clear hK K; refine Run.nq ?_
    refine Run.nq ?_; refine Run.condW (by simp only [AW5, simprocAttr, hX]; rfl) (by simp only [AW5, simprocAttr, hX]) ?_ ?_
    rotate_left
    · intro h; cases h
    intro _
    refine Run.nq ?_; refine Run.regionW hC (fun K hK => ?_); simp only [AW5, simprocAttr, hX]; (repeat (with_reducible refine And.intro ?_ ?_); exact vc0); refine hK _ ?_; clear hK K; refine Run.nq ?_
    refine Run.retW [6] (by decide) (by rw [hfn]; rfl) (by simp only [AW5, simprocAttr, hX]; rfl) (by simp only [AW5, simprocAttr, hX]) (hfin _ _ rfl rfl ?_)
    rw [e]; exact ⟨rfl, rfl⟩
  refine Run.nq ?_; refine Run.regionW hC (fun K hK => ?_); simp only [AW5, simprocAttr, hX]; (repeat (with_reducible refine And.intro ?_ ?_); exact vc0)
  refine FunA.callW hP hT (c_spec_IsWord c u hcl) (by simp only [AW5, simprocAttr]) ?_
  rintro rs o ⟨rfl, rfl⟩
  simp only [hu]
  (try simp only [AW5, simprocAttr, hX]); (repeat (with_reducible refine And.intro ?_ ?_); exact vc0)
  refine .inr ⟨rfl, ?_⟩
  refine FunA.callW hP hT (c_spec_IsWord c v hcl) (by simp only [AW5, simprocAttr]) ?_
  rintro rs o ⟨rfl, rfl⟩
  simp only [hv]
  (try simp only [AW5, simprocAttr, hX]); (repeat (with_reducible refine And.intro ?_ ?_); exact vc0)
  refine .inr ⟨rfl, ?_⟩
  refine FunA.callW hP hT (c_spec_IsFinite c) (by simp only [AW5, simprocAttr]) ?_
  rintro rs o ⟨rfl, rfl⟩
  (try simp only [AW5, simprocAttr, hX]); (repeat (with_reducible refine And.intro ?_ ?_); exact vc0)
  (repeat (with_reducible refine And.intro ?_ ?_); exact vc0); refine hK _ ?_; clear hK K; refine Run.nq ?_
  refine Run.nq ?_; refine Run.condW (by simp only [AW5, simprocAttr, hX]; rfl) (by simp only [AW5, simprocAttr, hX]) ?_ ?_
  · intro h
    have hf : isF c = false := by simpa using h
    have e : abB c u v = false := by unfold abB; rw [hu, hv, hf]; rfl
    refine Run.nq ?_; refine Run.regionW hC (fun K hK => ?_); simp only [AW5, simprocAttr, hX]; (repeat (with_reducible refine And.intro ?_ ?_); exact vc0); refine hK _ ?_; clear hK K; refine Run.nq ?_
    refine Run.retW [6] (by decide) (by rw [hfn]; rfl) (by simp only [AW5, simprocAttr, hX]; rfl) (by simp only [AW5, simprocAttr, hX]) (hfin _ _ rfl rfl ?_)
    rw [e]; exact ⟨rfl, rfl⟩
  intro h
  have hf : isF c = true := by simpa using h
  obtain ⟨hc, u1, u2⟩ := wordB_iff.1 hu
  have e : abB c u v = (mulB c u.reverse v && (absN c u + absN c (mulX c u.reverse v) == absN c v)) := by unfold abB; rw [hu, hv, hf]; rfl
  have hx := mulX_le c u.reverse v
  have n1 := absN_bnd c u
  have n2 := absN_bnd c v
  have n3 := absN_bnd c (mulX c u.reverse v)
  refine Run.nq ?_; refine Run.regionW hC (fun K hK => ?_); simp only [AW5, simprocAttr, hX]; (repeat (with_reducible refine And.intro ?_ ?_); exact vc0)
  refine FunA.callW hP hT (c_spec_ReverseWord u (by omega)) (by simp only [AW5, simprocAttr]) ?_
  rintro rs o ⟨rfl, rfl⟩
  (try simp only [AW5, simprocAttr, hX]); (repeat (with_reducible refine And.intro ?_ ?_); exact vc0)
  refine FunA.callW hP hT (c_spec_MultiplyElements c u.reverse v hcl) (by simp only [AW5, simprocAttr]) ?_
  rintro rs o ⟨rfl, rfl⟩
  (try simp only [AW5, simprocAttr, hX]); (repeat (with_reducible refine And.intro ?_ ?_); exact vc0)
  (repeat (with_reducible refine And.intro ?_ ?_); exact vc0); refine hK _ ?_; clear hK K; refine Run.nq ?_
  cases hm : mulB c u.reverse v with
  | false =>
    refine Run.nq ?_; refine Run.regionW hC (fun K hK => ?_); simp only [AW5, simprocAttr, hX]; (repeat (with_reducible refine And.intro ?_ ?_); exact vc0)
    refine .inl (CallG.off (.int .i64 0) ?_)
    (try simp only [AW5, simprocAttr, hX]); (repeat (with_reducible refine And.intro ?_ ?_); exact vc0)
    refine .inl (CallG.off (.int .i64 0) ?_)
    (try simp only [AW5, simprocAttr, hX]); (repeat (with_reducible refine And.intro ?_ ?_); exact vc0)
    refine .inl (CallG.off (.int .i64 0) ?_)
    (try simp only [AW5, simprocAttr, hX]); (repeat (with_reducible refine And.intro ?_ ?_); exact vc0)
    (repeat (with_reducible refine And.intro ?_ ?_); exact vc0); refine hK _ ?_; clear hK K; refine Run.nq ?_
    refine Run.reK hpin [6] [] (by decide) (by simp) ?_; simp only [AR, AW5, simprocAttr]
    refine Run.retW [6] (by decide) (by rw [hfn]; rfl) (by simp only [AW5, simprocAttr, hX]; rfl) (by simp only [AW5, simprocAttr, hX]) (hfin _ _ rfl rfl ?_)
    rw [e, hm]; exact ⟨rfl, rfl⟩
  | true =>
    refine Run.nq ?_; refine Run.regionW hC (fun K hK => ?_); simp only [AW5, simprocAttr, hX]; (repeat (with_reducible refine And.intro ?_ ?_); exact vc0)
    refine .inr ⟨rfl, ?_⟩
    refine FunA.callW hP hT (c_spec_AbsoluteLength c u hcl) (by simp only [AW5, simprocAttr]) ?_
    rintro rs o ⟨rfl, rfl⟩
    (try simp only [AW5, simprocAttr, hX]); (repeat (with_reducible refine And.intro ?_ ?_); exact vc0)
    refine .inr ⟨rfl, ?_⟩
    refine FunA.callW hP hT (c_spec_AbsoluteLength c (mulX c u.reverse v) hcl) (by simp only [AW5, simprocAttr]) ?_
    rintro rs o ⟨rfl, rfl⟩
    simp (disch := omega) only [wrap_id, AW5, simprocAttr, hX]; (repeat (with_reducible refine And.intro ?_ ?_); exact vc0)
    refine .inr ⟨rfl, ?_⟩
    refine FunA.callW hP hT (c_spec_AbsoluteLength c v hcl) (by simp only [AW5, simprocAttr]) ?_
    rintro rs o ⟨rfl, rfl⟩
    (try simp only [AW5, simprocAttr, hX]); (repeat (with_reducible refine And.intro ?_ ?_); exact vc0)
    (repeat (with_reducible refine And.intro ?_ ?_); exact vc0); refine hK _ ?_; clear hK K; refine Run.nq ?_
    refine Run.reK hpin [6] [] (by decide) (by simp) ?_; simp only [AR, AW5, simprocAttr]
    refine Run.retW [6] (by decide) (by rw [hfn]; rfl) (by simp only [AW5, simprocAttr, hX]; rfl) (by simp only [AW5, simprocAttr, hX]) (hfin _ _ rfl rfl ?_)
    rw [e, hm]; exact ⟨rfl, rfl⟩

end Go.Proofs.Ytnhiamdnghgboaa

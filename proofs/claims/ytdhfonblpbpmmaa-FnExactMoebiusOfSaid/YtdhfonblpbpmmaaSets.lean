/- Sets of points, and the word of all points. -/
import Derived.Test.YtdhfonblpbpmmaaCartan
set_option linter.unusedVariables false
set_option linter.unusedSimpArgs false
namespace Go.Proofs.Ytdhfonblpbpmmaa
open Go Go.Aw

def setP (n : Nat) (s : List Int) : Prop := ∀ i, i < s.length → 0 ≤ s.getD i 0 ∧ s.getD i 0 < n ∧ (0 < i → s.getD (i - 1) 0 < s.getD i 0)
open Classical in
noncomputable def setB (c : List (List Int)) (s : List Int) : Bool := decide (setP c.length s)
theorem setB_iff {c : List (List Int)} {s : List Int} : setB c s = true ↔ setP c.length s := by simp [setB]

theorem setP_mono {n : Nat} {s : List Int} (h : setP n s) : ∀ i j, i < j → j < s.length → s.getD i 0 < s.getD j 0 := by
  intro i j hij
  induction j with
  | zero => omega
  | succ j ih =>
    intro hj
    have h1 := (h (j + 1) hj).2.2 (by omega)
    simp only [Nat.add_sub_cancel] at h1
    by_cases h2 : i = j
    · subst h2; exact h1
    · have := ih (by omega) (by omega); omega

noncomputable def isSetB (c : List (List Int)) (s : List Int) : Bool := isC c && setB c s
theorem c_spec_l3Set (c : List (List Int)) (s : List Int) (hc : c.length ≤ 1048576) : FunA B 112 [.sl false (.row false) c, .sl false .int s] (fun rs o => rs = [.bool (isSetB c s)] ∧ o = []) := by
  refine FunA.walk B_ok (fn := Try.f112) (fun vs w => Try.call112 vs w) Try.func112 rfl (by rw [Try.ntmps112]; simp) (fun C hC hP hT hΓ hbt hfn hpin hfin => ?_); have hX := BX; rw [← hΓ, ← hbt.1, ← hbt.2] at hX; rw [Try.ntmps112]; simp only [AW7, simprocAttr, hX]
  refine Run.len 1 rfl fun hlens => ?_
  refine Run.nq ?_; refine Run.regionW hC (fun K hK => ?_); simp only [AW7, simprocAttr, hX]; (repeat (with_reducible refine And.intro ?_ ?_); exact vc0); refine hK _ ?_; clear hK K; refine Run.nq ?_
  refine Run.nq ?_; refine Run.regionW hC (fun K hK => ?_); simp only [AW7, simprocAttr, hX]; (repeat (with_reducible refine And.intro ?_ ?_); exact vc0); refine hK _ ?_; clear hK K; refine Run.nq ?_
  refine Run.loopI (X := Nat) (fun i => ⟨39, [(0, true, .v (.sl false (.row false) c)), (1, true, .v (.sl false .int s)), (4, true, .v (.bool false)), (5, true, .v (.int .i64 i))], []⟩) (fun i => i ≤ s.length ∧ ∀ k, k < i → 0 ≤ s.getD k 0 ∧ s.getD k 0 < c.length ∧ (0 < k → s.getD (k - 1) 0 < s.getD k 0)) (fun i => s.length - i) 0 ⟨Nat.zero_le _, by omega⟩ ?_ ?_
  · exact Le.sub (by simp only [AW7, simprocAttr]) (by simp only [AW7, simprocAttr]; try simp)
  rintro i ⟨hi, hset⟩ ih
  refine Run.nq ?_; refine Run.regionW hC (fun K hK => ?_); simp only [AW7, simprocAttr, hX]; (repeat (with_reducible refine And.intro ?_ ?_); exact vc0); refine hK _ ?_; clear hK K; refine Run.nq ?_
  refine Run.nq ?_; refine Run.condW (by simp only [AW7, simprocAttr, hX]; rfl) (by simp only [AW7, simprocAttr, hX]) ?_ ?_
  · intro hc
    have hc : i < s.length := by simpa using hc
    refine Run.keep [0, 1, 4, 5] ?_; simp only [AK, Nat.reduceBEq]
    refine Run.nq ?_
    refine Run.regionD hC true [0,1,2,3,4,5,6,7,8,9,10,11,12,13,14,15,16,17,18,19,20,21,22,23,24] (by kernel_rfl) (fun K hK => ?_)
    simp (disch := omega) only [wrap_id, AW7, simprocAttr, hX]
    (repeat (with_reducible refine And.intro ?_ ?_); exact vc0)
    refine FunA.callD hP hT (c_spec_l1In (s.getD i 0) 0 ((c.length : Int) - 1)) (by simp only [AW7, simprocAttr]) ?_
    rintro rs o ⟨rfl, rfl⟩
    simp (disch := omega) only [wrap_id, AW7, simprocAttr, hX]; (repeat (with_reducible refine And.intro ?_ ?_); exact vc0)
    (repeat (with_reducible refine And.intro ?_ ?_); exact vc0); refine hK _ ?_; clear hK K; refine Run.nq ?_
    refine Run.keep [0, 1, 4, 5, 36] ?_; simp only [AK, Nat.reduceBEq]
    have key : (bif !inB (s.getD i 0) 0 ((c.length : Int) - 1) then true else bif decide (0 < (i : Int)) then decide (s.getD i 0 ≤ s.getD ((i : Int) - 1).toNat 0) else false) = true ↔ ¬ (0 ≤ s.getD i 0 ∧ s.getD i 0 < c.length ∧ (0 < i → s.getD (i - 1) 0 < s.getD i 0)) := by
      have e : ((i : Int) - 1).toNat = i - 1 := by omega
      rw [e]
      cases hin : inB (s.getD i 0) 0 ((c.length : Int) - 1) with
      | false =>
        have : ¬ (0 ≤ s.getD i 0 ∧ s.getD i 0 ≤ (c.length : Int) - 1) := fun h => by rw [inB_iff.2 h] at hin; cases hin
        simp only [Bool.not_false, cond_true, true_iff]
        omega
      | true =>
        have := inB_iff.1 hin
        simp only [Bool.not_true, cond_false]
        by_cases h0 : 0 < i
        · have h0' : (0 : Int) < i := by omega
          simp only [h0', decide_true, cond_true, decide_eq_true_eq]
          omega
        · have h0' : ¬ (0 : Int) < i := by omega
          simp only [h0', decide_false, cond_false]
          simp only [Bool.false_eq_true, false_iff]
          omega
    refine Run.nq ?_; refine Run.condW (by simp only [AW7, simprocAttr, hX]; rfl) (by simp only [AW7, simprocAttr, hX]) ?_ ?_
    · intro hb
      refine Run.nq ?_; refine Run.regionW hC (fun K hK => ?_); simp only [AW7, simprocAttr, hX]; (repeat (with_reducible refine And.intro ?_ ?_); exact vc0); refine hK _ ?_; clear hK K; refine Run.nq ?_
      refine Run.retW [4] (by decide) (by rw [hfn]; rfl) (by simp only [AW7, simprocAttr, hX]; rfl) (by simp only [AW7, simprocAttr, hX]) (hfin _ _ rfl rfl ?_)
      refine ⟨?_, rfl⟩
      have : setB c s = false := by
        cases h : setB c s with
        | false => rfl
        | true => exact absurd (setB_iff.1 h i hc) (key.1 hb)
      simp [isSetB, this]
    · intro hb
      have hb : 0 ≤ s.getD i 0 ∧ s.getD i 0 < c.length ∧ (0 < i → s.getD (i - 1) 0 < s.getD i 0) := by
        refine Classical.byContradiction fun h => ?_
        have := key.2 h
        rw [this] at hb
        cases hb
      refine Run.nq ?_; refine Run.regionW hC (fun K hK => ?_); simp (disch := omega) only [wrap_id, AW7, simprocAttr, hX]; (repeat (with_reducible refine And.intro ?_ ?_); exact vc0); refine hK _ ?_; clear hK K; refine Run.nq ?_
      refine Run.le ?_ (ih (i + 1) ⟨hc, fun k hk => ?_⟩ (by omega))
      · exact Le.sub (by simp only [AW7, simprocAttr]) (by simp only [AW7, simprocAttr, Option.some.injEq, Prod.mk.injEq, Sl.v.injEq, AV.int.injEq, AV.own.injEq, AV.bool.injEq]; try (repeat' apply And.intro); all_goals omega)
      · rcases Nat.lt_succ_iff_lt_or_eq.1 hk with h | rfl
        · exact hset k h
        · exact hb
  · intro hc
    have hc : i = s.length := by simp at hc; omega
    subst hc
    refine Run.exit rfl ?_; refine Run.nq ?_
    refine Run.nq ?_; refine Run.regionW hC (fun K hK => ?_); simp only [AW7, simprocAttr, hX]; (repeat (with_reducible refine And.intro ?_ ?_); exact vc0)
    refine FunA.callW hP hT (c_spec_IsCartan c) (by simp only [AW7, simprocAttr]) ?_
    rintro rs o ⟨rfl, rfl⟩
    (try simp only [AW7, simprocAttr, hX]); (repeat (with_reducible refine And.intro ?_ ?_); exact vc0)
    (repeat (with_reducible refine And.intro ?_ ?_); exact vc0); refine hK _ ?_; clear hK K; refine Run.nq ?_
    refine Run.retW [4] (by decide) (by rw [hfn]; rfl) (by simp only [AW7, simprocAttr, hX]; rfl) (by simp only [AW7, simprocAttr, hX]) (hfin _ _ rfl rfl ?_)
    refine ⟨?_, rfl⟩
    have : setB c s = true := setB_iff.2 hset
    simp [isSetB, this]

end Go.Proofs.Ytdhfonblpbpmmaa

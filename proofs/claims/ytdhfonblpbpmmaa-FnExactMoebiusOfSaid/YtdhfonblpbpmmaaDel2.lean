/- A letter left out: the reference's side. -/
import Derived.Test.YtdhfonblpbpmmaaWords4
set_option linter.unusedVariables false
set_option linter.unusedSimpArgs false
namespace Go.Proofs.Ytdhfonblpbpmmaa
open Go Go.Aw

def delN (w : List Int) (k : Nat) (i : Nat) : List Int := (w.take i).take k ++ (w.take i).drop (k + 1)
theorem delN_snoc (w : List Int) (k i : Nat) (h : i < w.length) : delN w k (i + 1) = if i = k then delN w k i else delN w k i ++ [w.getD i 0] := by
  unfold delN
  have e : w.take (i + 1) = w.take i ++ [w.getD i 0] := by rw [getD_eq h, List.take_succ_eq_append_getElem h]
  have hl : (w.take i).length = i := by simp; omega
  rw [e, List.take_append, List.drop_append, hl]
  by_cases h1 : i = k
  · subst h1
    rw [if_pos rfl, Nat.sub_self, List.take_zero, List.append_nil, show i + 1 - i = 1 by omega]
    simp
  · rw [if_neg h1]
    by_cases h2 : i < k
    · rw [List.take_of_length_le (by simp; omega : [w.getD i 0].length ≤ k - i), List.drop_eq_nil_of_le (by omega : (w.take i).length ≤ k + 1), List.drop_eq_nil_of_le (by simp; omega : [w.getD i 0].length ≤ k + 1 - i)]
      simp
    · rw [show k - i = 0 by omega, show k + 1 - i = 0 by omega]
      simp
theorem delN_all (w : List Int) (k : Nat) : delN w k w.length = w.take k ++ w.drop (k + 1) := by simp [delN]

theorem c_spec_DeleteAt (w : List Int) (k : Nat) (hl : w.length ≤ 1048576) :
    FunA B 73 [.sl false .int w, .int .i64 k] (fun rs o => rs = [.own 0 0] ∧ o = [.arr .int (w.take k ++ w.drop (k + 1)) 0 true]) := by
  refine FunA.walk B_ok (fn := Try.f73) (fun vs w => Try.call73 vs w) Try.func73 rfl (by rw [Try.ntmps73]; simp) (fun C hC hP hT hΓ hbt hfn hpin hfin => ?_); have hX := BX; rw [← hΓ, ← hbt.1, ← hbt.2] at hX; rw [Try.ntmps73]; simp only [AW7, simprocAttr, hX]
  refine Run.nq ?_; refine Run.regionW hC (fun K hK => ?_); simp only [AW7, simprocAttr, hX]; (repeat (with_reducible refine And.intro ?_ ?_); exact vc0); refine hK _ ?_; clear hK K; refine Run.nq ?_
  refine Run.nq ?_; refine Run.regionW hC (fun K hK => ?_); simp only [AW7, simprocAttr, hX]; (repeat (with_reducible refine And.intro ?_ ?_); exact vc0); refine hK _ ?_; clear hK K; refine Run.nq ?_
  refine Run.nq ?_; refine Run.regionW hC (fun K hK => ?_); simp only [AW7, simprocAttr, hX]; (repeat (with_reducible refine And.intro ?_ ?_); exact vc0); refine hK _ ?_; clear hK K; refine Run.nq ?_
  refine Run.reK hpin [0, 1, 5, 6] [0] (by decide) (by simp) ?_; simp only [AR, AW7, simprocAttr]
  refine Run.le (Le.sub (fr' := [(0, true, .v (.sl false .int w)), (1, true, .v (.int .i64 k)), (5, true, .v (.own 0 0)), (6, true, .v (.int .i64 (0 : Nat)))]) (obs' := [.arr .int (delN w k 0) 0 true]) (by simp [delN]) (by simp only [AW7, simprocAttr]; try simp)) ?_
  refine Run.loopI (X := Nat) (fun i => ⟨25, [(0, true, .v (.sl false .int (w))), (1, true, .v (.int .i64 (k))), (5, true, .v (.own 0 0)), (6, true, .v (.int .i64 (i)))], [.arr .int ((delN w k i)) 0 true]⟩) (fun i => i ≤ w.length) (fun i => w.length - i) (0) (Nat.zero_le _) ?_ ?_
  · exact Le.sub (by first | rfl | simp) (by simp only [AW7, simprocAttr, hX]; try simp <;> try (first | rfl | exact ⟨rfl, rfl⟩ | exact ⟨rfl, rfl, rfl⟩))
  rintro i hi ih
  try simp only []
  have hdl : (delN w k i).length ≤ i := by unfold delN; simp; omega
  refine Run.nq ?_; refine Run.regionW hC (fun K hK => ?_); simp only [AW7, simprocAttr, hX]; (repeat (with_reducible refine And.intro ?_ ?_); exact vc0); refine hK _ ?_; clear hK K; refine Run.nq ?_
  refine Run.nq ?_; refine Run.condW (by simp only [AW7, simprocAttr, hX]; rfl) (by simp only [AW7, simprocAttr, hX]) ?_ ?_
  rotate_left
  · intro h
    have h : i = w.length := by rw [decide_eq_false_iff_not] at h; omega
    refine Run.exit rfl ?_; refine Run.nq ?_
    refine Run.nq ?_; refine Run.regionW hC (fun K hK => ?_); simp only [AW7, simprocAttr, hX]; (repeat (with_reducible refine And.intro ?_ ?_); exact vc0); refine hK _ ?_; clear hK K; refine Run.nq ?_
    refine Run.reK hpin [4] [0] (by decide) (by simp) ?_; simp only [AR, AW7, simprocAttr]
    refine Run.retW [4] (by decide) (by rw [hfn]; rfl) (by simp only [AW7, simprocAttr, hX]; rfl) (by simp only [AW7, simprocAttr, hX]) (hfin _ _ rfl rfl ?_)
    rw [h, delN_all]; exact ⟨rfl, rfl⟩
  intro h
  have h : i < w.length := by rw [decide_eq_true_eq] at h; omega
  have hs := delN_snoc w k i h
  refine Run.nq ?_; refine Run.regionW hC (fun K hK => ?_); simp only [AW7, simprocAttr, hX]; (repeat (with_reducible refine And.intro ?_ ?_); exact vc0); refine hK _ ?_; clear hK K; refine Run.nq ?_
  refine Run.nq ?_; refine Run.condW (by simp only [AW7, simprocAttr, hX]; rfl) (by simp only [AW7, simprocAttr, hX]) ?_ ?_
  · intro h2
    have h2 : ¬ i = k := by intro e; rw [e] at h2; simp at h2
    rw [if_neg h2] at hs
    refine Run.nq ?_; refine Run.regionW hC (fun K hK => ?_); simp only [AW7, simprocAttr, hX]; (repeat (with_reducible refine And.intro ?_ ?_); exact vc0); refine hK _ ?_; clear hK K; refine Run.nq ?_
    refine Run.reK hpin [0, 1, 5, 6] [0] (by decide) (by simp) ?_; simp only [AR, AW7, simprocAttr]
    refine Run.nq ?_; refine Run.regionW hC (fun K hK => ?_); simp (disch := omega) only [wrap_id, AW7, simprocAttr, hX]; (repeat (with_reducible refine And.intro ?_ ?_); exact vc0); refine hK _ ?_; clear hK K; refine Run.nq ?_
    refine Run.le ?_ (ih (i + 1) (by omega) (by (try simp only [List.length_append, List.length_cons, List.length_nil]); omega))
    exact Le.sub (by first | rfl | (simp only [hs]; done) | (rw [hs]; rfl)) (by simp only [AW7, simprocAttr]; try simp)
  intro h2
  have h2 : i = k := by simp at h2; omega
  rw [if_pos h2] at hs
  refine Run.nq ?_; refine Run.regionW hC (fun K hK => ?_); simp (disch := omega) only [wrap_id, AW7, simprocAttr, hX]; (repeat (with_reducible refine And.intro ?_ ?_); exact vc0); refine hK _ ?_; clear hK K; refine Run.nq ?_
  refine Run.le ?_ (ih (i + 1) (by omega) (by (try simp only [List.length_append, List.length_cons, List.length_nil]); omega))
  exact Le.sub (by first | rfl | (simp only [hs]; done) | (rw [hs]; rfl)) (by simp only [AW7, simprocAttr]; try simp)
end Go.Proofs.Ytdhfonblpbpmmaa

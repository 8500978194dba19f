/- A word looked for in a list. -/
import Derived.Test.YtdhfonblpbpmmaaEq
set_option linter.unusedVariables false
set_option linter.unusedSimpArgs false
namespace Go.Proofs.Ytdhfonblpbpmmaa
open Go Go.Aw

theorem c_spec_l7In (rows : List (List Int)) (w : List Int) (hl : rows.length ≤ 1048576) (hr : ∀ r ∈ rows, r.length ≤ 1048576) :
    FunA B 34 [.sl false (.row false) rows, .sl false .int w] (fun rs o => rs = [.bool (decide (w ∈ rows))] ∧ o = []) := by
  refine FunA.walk B_ok (fn := Try.f34) (fun vs w => Try.call34 vs w) Try.func34 rfl (by rw [Try.ntmps34]; simp) (fun C hC hP hT hΓ hbt hfn hpin hfin => ?_); have hX := BX; rw [← hΓ, ← hbt.1, ← hbt.2] at hX; rw [Try.ntmps34]; simp only [AW7, simprocAttr, hX]
  refine Run.nq ?_; refine Run.regionW hC (fun K hK => ?_); simp only [AW7, simprocAttr, hX]; (repeat (with_reducible refine And.intro ?_ ?_); exact vc0); refine hK _ ?_; clear hK K; refine Run.nq ?_
  refine Run.nq ?_; refine Run.regionW hC (fun K hK => ?_); simp only [AW7, simprocAttr, hX]; (repeat (with_reducible refine And.intro ?_ ?_); exact vc0); refine hK _ ?_; clear hK K; refine Run.nq ?_
  refine Run.loopI (X := Nat) (fun i => ⟨18, [(0, true, .v (.sl false (.row false) (rows))), (1, true, .v (.sl false .int (w))), (5, true, .v (.int .i64 (i)))], []⟩) (fun i => i ≤ rows.length ∧ ∀ j, j < i → rows.getD j [] ≠ w) (fun i => rows.length - i) (0) (⟨Nat.zero_le _, fun j h => by omega⟩) ?_ ?_
  · exact Le.sub (by first | rfl | simp) (by simp only [AW7, simprocAttr, hX]; try simp <;> try (first | rfl | exact ⟨rfl, rfl⟩ | exact ⟨rfl, rfl, rfl⟩))
  rintro i ⟨hi, hne⟩ ih
  try simp only []
  refine Run.nq ?_; refine Run.regionW hC (fun K hK => ?_); simp only [AW7, simprocAttr, hX]; (repeat (with_reducible refine And.intro ?_ ?_); exact vc0); refine hK _ ?_; clear hK K; refine Run.nq ?_
  refine Run.nq ?_; refine Run.condW (by simp only [AW7, simprocAttr, hX]; rfl) (by simp only [AW7, simprocAttr, hX]) ?_ ?_
  rotate_left
  · intro h
    have h : i = rows.length := by rw [decide_eq_false_iff_not] at h; omega
    refine Run.exit rfl ?_; refine Run.nq ?_
    refine Run.nq ?_; refine Run.regionW hC (fun K hK => ?_); simp only [AW7, simprocAttr, hX]; (repeat (with_reducible refine And.intro ?_ ?_); exact vc0); refine hK _ ?_; clear hK K; refine Run.nq ?_
    refine Run.retW [4] (by decide) (by rw [hfn]; rfl) (by simp only [AW7, simprocAttr, hX]; rfl) (by simp only [AW7, simprocAttr, hX]) (hfin _ _ rfl rfl ?_)
    have hm : ¬ w ∈ rows := fun hm => by
      obtain ⟨j, hj, e⟩ := List.getElem_of_mem hm
      exact hne j (by omega) (by rw [getD_eq hj]; exact e)
    exact ⟨by simp [hm], rfl⟩
  intro h
  have h : i < rows.length := by rw [decide_eq_true_eq] at h; omega
  have hri : (rows.getD i []).length ≤ 1048576 := hr _ (by rw [getD_eq h]; exact List.getElem_mem h)
  refine Run.nq ?_; refine Run.regionW hC (fun K hK => ?_); simp only [AW7, simprocAttr, hX]; (repeat (with_reducible refine And.intro ?_ ?_); exact vc0)
  refine FunA.callW hP hT (c_spec_EqualWords (rows.getD i []) w (by omega)) (by simp only [AW7, simprocAttr]) ?_
  rintro rs o ⟨rfl, rfl⟩
  (try simp only [AW7, simprocAttr, hX]); (repeat (with_reducible refine And.intro ?_ ?_); exact vc0)
  (repeat (with_reducible refine And.intro ?_ ?_); exact vc0); refine hK _ ?_; clear hK K; refine Run.nq ?_
  refine Run.nq ?_; refine Run.condW (by simp only [AW7, simprocAttr, hX]; rfl) (by simp only [AW7, simprocAttr, hX]) ?_ ?_
  · intro h2
    have h2 : rows.getD i [] = w := by simpa using h2
    refine Run.nq ?_; refine Run.regionW hC (fun K hK => ?_); simp only [AW7, simprocAttr, hX]; (repeat (with_reducible refine And.intro ?_ ?_); exact vc0); refine hK _ ?_; clear hK K; refine Run.nq ?_
    refine Run.retW [4] (by decide) (by rw [hfn]; rfl) (by simp only [AW7, simprocAttr, hX]; rfl) (by simp only [AW7, simprocAttr, hX]) (hfin _ _ rfl rfl ?_)
    have hm : w ∈ rows := by rw [← h2, getD_eq h]; exact List.getElem_mem h
    exact ⟨by simp [hm], rfl⟩
  intro h2
  have h2 : rows.getD i [] ≠ w := by intro e; rw [e] at h2; simp at h2
  have hne2 : ∀ j, j < i + 1 → rows.getD j [] ≠ w := fun j hj => by
    by_cases e : j = i
    · rw [e]; exact h2
    · exact hne j (by omega)
  refine Run.nq ?_; refine Run.regionW hC (fun K hK => ?_); simp (disch := omega) only [wrap_id, AW7, simprocAttr, hX]; (repeat (with_reducible refine And.intro ?_ ?_); exact vc0); refine hK _ ?_; clear hK K; refine Run.nq ?_
  refine Run.le ?_ (ih (i + 1) (⟨by omega, hne2⟩) (by (try simp only [List.length_append, List.length_cons, List.length_nil]); omega))
  exact Le.sub (by rfl) (by simp only [AW7, simprocAttr]; try simp)
end Go.Proofs.Ytdhfonblpbpmmaa

/- A list without neighbours that are equal: slices.CompactFunc hands it back. -/
import Derived.Test.YtnhiamdnghgboaaCmp
set_option linter.unusedVariables false
set_option linter.unusedSimpArgs false
namespace Go.Proofs.Ytnhiamdnghgboaa
open Go Go.Aw

theorem c_CompactFunc (ys : List (Nat × List Int)) (hyl : ys.length ≤ 1000) (hr : ∀ p ∈ ys, p.2.length ≤ 1000) (hne : ∀ i, i + 1 < ys.length → (ys.getD (i + 1) (0, [])).2 ≠ (ys.getD i (0, [])).2) (nn : Bool) :
    FunM B 96 [.own 0 0, .fn 97] .lrow ys nn (fun rs o => rs = [.own 0 0] ∧ o = [.arr .lrow ys 0 nn]) := by
  refine FunM.walk B_ok (fn := Try.f96) (fun vs w => Try.call96 vs w) Try.func96 rfl (by rw [Try.ntmps96]; simp) (fun C hC hP hT hΓ hbt hfn hpin hfin => ?_); have hX := BX; rw [← hΓ, ← hbt] at hX; rw [Try.ntmps96]; simp only [AW5, simprocAttr, hX]
  refine Run.nq ?_; refine Run.regionW hC (fun K hK => ?_); simp only [AW5, simprocAttr, hX]; (repeat (with_reducible refine And.intro ?_ ?_); exact vc0); refine hK _ ?_; clear hK K; refine Run.nq ?_
  refine Run.nq ?_; refine Run.regionW hC (fun K hK => ?_); simp only [AW5, simprocAttr, hX]; (repeat (with_reducible refine And.intro ?_ ?_); exact vc0); refine hK _ ?_; clear hK K; refine Run.nq ?_
  refine Run.nq ?_; refine Run.condW (by simp only [AW5, simprocAttr, hX]; rfl) (by simp only [AW5, simprocAttr, hX]) ?_ ?_
  · intro h
    refine Run.nq ?_; refine Run.regionW hC (fun K hK => ?_); simp only [AW5, simprocAttr, hX]; (repeat (with_reducible refine And.intro ?_ ?_); exact vc0); refine hK _ ?_; clear hK K; refine Run.nq ?_
    refine Run.retW [4] (by decide) (by rw [hfn]; rfl) (by simp only [AW5, simprocAttr, hX]; rfl) (by simp only [AW5, simprocAttr, hX]) (hfin _ _ _ rfl rfl rfl ?_)
    exact ⟨rfl, rfl⟩
  intro h
  have h2 : 2 ≤ ys.length := by rw [decide_eq_false_iff_not] at h; omega
  refine Run.nq ?_; refine Run.regionW hC (fun K hK => ?_); simp only [AW5, simprocAttr, hX]; (repeat (with_reducible refine And.intro ?_ ?_); exact vc0); refine hK _ ?_; clear hK K; refine Run.nq ?_
  refine Run.reKP hpin [0, 1, 5] [0] rfl (by simp [oAt, gen0]) (by decide) (by simp) ?_; simp only [AR, AW5, simprocAttr]
  refine Run.loopI (X := Nat) (fun i => ⟨66, [(0, true, .v (.own 0 0)), (1, true, .v (.fn (97))), (5, true, .v (.int .i64 (((i + 1 : Nat) : Int))))], [.arr .lrow ys 0 nn]⟩) (fun i => i + 1 ≤ ys.length) (fun i => ys.length - i) (0) (by omega) ?_ ?_
  · exact Le.sub (by first | rfl | simp) (by simp only [AW5, simprocAttr, hX]; try simp <;> try (first | rfl | exact ⟨rfl, rfl⟩ | exact ⟨rfl, rfl, rfl⟩))
  rintro i hi ih
  try simp only []
  refine Run.nq ?_; refine Run.regionW hC (fun K hK => ?_); simp only [AW5, simprocAttr, hX]; (repeat (with_reducible refine And.intro ?_ ?_); exact vc0); refine hK _ ?_; clear hK K; refine Run.nq ?_
  refine Run.nq ?_; refine Run.condW (by simp only [AW5, simprocAttr, hX]; rfl) (by simp only [AW5, simprocAttr, hX]) ?_ ?_
  rotate_left
  · intro h
    refine Run.exit rfl ?_; refine Run.nq ?_
    refine Run.nq ?_; refine Run.regionW hC (fun K hK => ?_); simp only [AW5, simprocAttr, hX]; (repeat (with_reducible refine And.intro ?_ ?_); exact vc0); refine hK _ ?_; clear hK K; refine Run.nq ?_
    refine Run.retW [4] (by decide) (by rw [hfn]; rfl) (by simp only [AW5, simprocAttr, hX]; rfl) (by simp only [AW5, simprocAttr, hX]) (hfin _ _ _ rfl rfl rfl ?_)
    exact ⟨rfl, rfl⟩
  intro h
  have h : i + 1 < ys.length := by rw [decide_eq_true_eq] at h; omega
  have hn := hne i h
  refine Run.nq ?_; refine Run.regionD hC true [0,1,2,3,4,5,6,7,8,9,10] (by kernel_rfl) (fun K hK => ?_); simp only [AW5, simprocAttr, hX]; (repeat (with_reducible refine And.intro ?_ ?_); exact vc0)
  have e1 : IntKind.i64.wrap (((i + 1 : Nat) : Int) - 1) = (i : Int) := by rw [wrap_id (by omega)]; omega
  simp only [e1, Int.toNat_natCast]
  refine ⟨⟨by omega, by omega⟩, ?_⟩
  refine (show inN 66 (some 28) ∧ True ∧ ACall _ _ 97 _ _ from ⟨?_, trivial, ?_⟩)
  · simp only [AW5, simprocAttr, hX]
  simp only [AW5, simprocAttr, hX]
  have hm : ys.getD (i + 1) (0, []) ∈ ys := by rw [getD_eq h]; exact List.getElem_mem h
  have hml := hr _ hm
  refine FunA.callD hP hT (c_slices_Equal (ys.getD (i + 1) (0, [])).2 (ys.getD i (0, [])).2 (by omega)) (by simp only [AW5, simprocAttr]) ?_
  rintro rs o ⟨rfl, rfl⟩
  (try simp only [AW5, simprocAttr, hX]); (repeat (with_reducible refine And.intro ?_ ?_); exact vc0)
  (repeat (with_reducible refine And.intro ?_ ?_); exact vc0); refine hK _ ?_; clear hK K; refine Run.nq ?_
  have hb : ((ys.getD (i + 1) (0, [])).2 == (ys.getD i (0, [])).2) = false := by simpa using hn
  simp only [hb]
  refine Run.nq ?_; refine Run.condW (by simp only [AW5, simprocAttr, hX]; rfl) (by simp only [AW5, simprocAttr, hX]) ?_ ?_
  · intro h; cases h
  intro _
  refine Run.reKP hpin [0, 1, 5] [0] rfl (by simp [oAt, gen0]) (by decide) (by simp) ?_; simp only [AR, AW5, simprocAttr]
  refine Run.nq ?_; refine Run.regionW hC (fun K hK => ?_); simp (disch := omega) only [wrap_id, AW5, simprocAttr, hX]; (repeat (with_reducible refine And.intro ?_ ?_); exact vc0); refine hK _ ?_; clear hK K; refine Run.nq ?_
  refine Run.le ?_ (ih (i + 1) (by omega) (by (try simp only [List.length_append, List.length_cons, List.length_nil]); omega))
  exact Le.sub (by rfl) (by simp only [AW5, simprocAttr]; try simp)
end Go.Proofs.Ytnhiamdnghgboaa

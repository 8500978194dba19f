/- What the laws' look at marks of matrices does. -/
import Derived.Test.YtdhfonblpbpmmaaBase3
set_option linter.unusedVariables false
set_option linter.unusedSimpArgs false
namespace Go.Proofs.Ytdhfonblpbpmmaa
open Go Go.Aw

theorem sumL_le {rows : List (List Int)} {n m : Nat} (h : rows.length ≤ n) (hr : ∀ r ∈ rows, r.length ≤ m) : sumL rows ≤ n * m := by
  have key : ∀ l : List (List Int), (∀ r ∈ l, r.length ≤ m) → sumL l ≤ l.length * m := by
    intro l
    induction l with
    | nil => intro _; simp [sumL]
    | cons r l ih =>
      intro hl
      have h1 := hl r (by simp)
      have h2 := ih fun x hx => hl x (List.mem_cons_of_mem _ hx)
      simp only [sumL, List.length_cons, Nat.add_mul]
      omega
  exact Nat.le_trans (key rows hr) (Nat.mul_le_mul_right m h)

theorem c_heldIotaR (k : Int) (rows : List (List Int)) (hr : rows.length ≤ 4503599627370496) (hrr : ∀ r ∈ rows, r.length ≤ 4503599627370496) (hk : 0 ≤ k ∧ k + sumL rows ≤ 4503599627370496) :
    FunA B 18 [.sl false (.row false) (iotaR k rows), .int .i64 k] (fun rs o => rs = [.int .i64 (k + sumL rows)] ∧ o = []) := by
  have hlen := iotaR_length k rows
  refine FunA.walk B_ok (fn := Try.f18) (fun vs w => Try.call18 vs w) Try.func18 rfl (by rw [Try.ntmps18]; simp) (fun C hC hP hT hΓ hbt hfn hpin hfin => ?_); have hX := BX; rw [← hΓ, ← hbt.1, ← hbt.2] at hX; rw [Try.ntmps18]; simp only [AW7, simprocAttr, hX]
  refine Run.nq ?_; refine Run.regionW hC (fun K hK => ?_); simp only [AW7, simprocAttr, hX]; (repeat (with_reducible refine And.intro ?_ ?_); exact vc0); refine hK _ ?_; clear hK K; refine Run.nq ?_
  refine Run.nq ?_; refine Run.regionW hC (fun K hK => ?_); simp only [AW7, simprocAttr, hX]; (repeat (with_reducible refine And.intro ?_ ?_); exact vc0); refine hK _ ?_; clear hK K; refine Run.nq ?_
  refine Run.loopI (X := Nat) (fun i => ⟨21, [(0, true, .v (.sl false (.row false) (iotaR k rows))), (1, true, .v (.int .i64 (k + sumL (rows.take i)))), (4, true, .v (.int .i64 0)), (5, true, .v (.int .i64 i))], []⟩) (fun i => i ≤ rows.length) (fun i => rows.length - i) 0 (Nat.zero_le _) ?_ ?_
  · refine Le.sub rfl ?_
    simp only [AW7, simprocAttr, hX]; try simp [sumL]
  rintro i hi ih
  have hst := sumL_take rows i
  refine Run.nq ?_; refine Run.regionW hC (fun K hK => ?_); simp only [AW7, simprocAttr, hX]; (repeat (with_reducible refine And.intro ?_ ?_); exact vc0); refine hK _ ?_; clear hK K; refine Run.nq ?_
  rw [hlen]
  refine Run.nq ?_; refine Run.condW (by simp only [AW7, simprocAttr, hX]; rfl) (by simp only [AW7, simprocAttr, hX]) ?_ ?_
  · intro hc
    have hc : i < rows.length := by simpa using hc
    have hsn := sumL_snoc rows i hc
    have hst2 := sumL_take rows (i + 1)
    have hget : (iotaR k rows).getD i [] = iota (k + sumL (rows.take i)) (rows.getD i []).length := by
      have h1 : iotaR k rows = iotaR k (rows.take (i + 1)) ++ iotaR (k + sumL (rows.take (i + 1))) (rows.drop (i + 1)) := by rw [← iotaR_append, List.take_append_drop]
      rw [h1, iotaR_snoc k rows i hc, List.append_assoc, List.getD_eq_getElem?_getD, List.getElem?_append_right (by rw [iotaR_length]; simp; omega)]
      rw [iotaR_length]
      simp [show min i rows.length = i by omega]
    have hrl := hrr (rows.getD i []) (by rw [List.getD_eq_getElem?_getD]; simp [hc])
    refine Run.nq ?_; refine Run.regionW hC (fun K hK => ?_); simp only [AW7, simprocAttr, hX]; (repeat (with_reducible refine And.intro ?_ ?_); exact vc0)
    rw [hget]
    refine FunA.callW hP hT (c_heldIota (k + sumL (rows.take i)) (rows.getD i []).length hrl (by omega)) (by simp only [AW7, simprocAttr]) ?_
    rintro rs o ⟨rfl, rfl⟩
    (try simp only [AW7, simprocAttr, hX]); (repeat (with_reducible refine And.intro ?_ ?_); exact vc0)
    (repeat (with_reducible refine And.intro ?_ ?_); exact vc0); refine hK _ ?_; clear hK K; refine Run.nq ?_
    refine Run.nq ?_; refine Run.regionW hC (fun K hK => ?_); simp only [AW7, simprocAttr, hX]; (repeat (with_reducible refine And.intro ?_ ?_); exact vc0); refine hK _ ?_; clear hK K; refine Run.nq ?_
    refine Run.nq ?_; refine Run.condW (by simp only [AW7, simprocAttr, hX]; rfl) (by simp only [AW7, simprocAttr, hX]) ?_ ?_
    · intro h2; simp at h2; omega
    intro h2
    refine Run.nq ?_; refine Run.regionW hC (fun K hK => ?_); simp (disch := omega) only [wrap_id, AW7, simprocAttr, hX]; (repeat (with_reducible refine And.intro ?_ ?_); exact vc0); refine hK _ ?_; clear hK K; refine Run.nq ?_
    rw [show k + (sumL (rows.take i) : Int) + ((rows.getD i []).length : Nat) = k + (sumL (rows.take (i + 1)) : Nat) by rw [hsn]; omega]
    refine Run.le ?_ (ih (i + 1) (by omega) (by (try simp only [List.length_append, List.length_cons, List.length_nil]); omega))
    exact Le.sub (by rfl) (by simp only [AW7, simprocAttr]; try simp)
  · intro hc
    have hc : i = rows.length := by simp at hc; omega
    subst hc
    rw [List.take_length]
    refine Run.exit rfl ?_; refine Run.nq ?_
    refine Run.nq ?_; refine Run.regionW hC (fun K hK => ?_); simp only [AW7, simprocAttr, hX]; (repeat (with_reducible refine And.intro ?_ ?_); exact vc0); refine hK _ ?_; clear hK K; refine Run.nq ?_
    refine Run.retW [4] (by decide) (by rw [hfn]; rfl) (by simp only [AW7, simprocAttr, hX]; rfl) (by simp only [AW7, simprocAttr, hX]) (hfin _ _ rfl rfl ?_)
    exact ⟨rfl, rfl⟩
end Go.Proofs.Ytdhfonblpbpmmaa

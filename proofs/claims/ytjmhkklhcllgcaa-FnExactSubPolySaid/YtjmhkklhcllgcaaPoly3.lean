/- Shifts of polynomials. -/
import Derived.Test.YtjmhkklhcllgcaaPoly2
set_option linter.unusedVariables false
set_option linter.unusedSimpArgs false
namespace Go.Proofs.Ytjmhkklhcllgcaa
open Go Go.Aw

theorem trimN_z {p : List Int} {n : Nat} (h : p.getD n 0 = 0) : trimN p (n + 1) = trimN p n := by simp only [trimN]; rw [if_pos h]
theorem trimN_nz {p : List Int} {n : Nat} (h : ¬ p.getD n 0 = 0) : trimN p (n + 1) = n + 1 := by simp only [trimN]; rw [if_neg h]
theorem trimN_append (a p : List Int) : ∀ n, trimN (a ++ p) (a.length + n) = if trimN p n = 0 then trimN (a ++ p) a.length else a.length + trimN p n
  | 0 => by simp [trimN]
  | n + 1 => by
    have e : a.length + (n + 1) = (a.length + n) + 1 := by omega
    have hg : (a ++ p).getD (a.length + n) 0 = p.getD n 0 := by
      simp only [List.getD_eq_getElem?_getD]
      rw [List.getElem?_append_right (by omega)]
      congr 2
      omega
    rw [e]
    by_cases h0 : p.getD n 0 = 0
    · rw [trimN_z (by rw [hg]; exact h0), trimN_z h0]
      exact trimN_append a p n
    · rw [trimN_nz (by rw [hg]; exact h0), trimN_nz h0, if_neg (by omega)]
      omega
theorem trimN_zeros (k : Nat) (p : List Int) : ∀ n, n ≤ k → trimN (List.replicate k 0 ++ p) n = 0
  | 0, _ => rfl
  | n + 1, h => by
    have hg : (List.replicate k (0 : Int) ++ p).getD n 0 = 0 := by
      have hn : n < k := by omega
      simp [List.getElem?_append, hn]
    rw [trimN_z hg]
    exact trimN_zeros k p n (by omega)
theorem trim_zeros (k : Nat) (p : List Int) : trim (List.replicate k 0 ++ p) = if trim p = [] then [] else List.replicate k 0 ++ trim p := by
  have h := trimN_append (List.replicate k 0) p p.length
  have hz := trimN_zeros k p k (Nat.le_refl _)
  simp only [List.length_replicate] at h
  have hl : (List.replicate k (0 : Int) ++ p).length = k + p.length := by simp
  have ht : trim p = [] ↔ trimN p p.length = 0 := by
    rw [← List.length_eq_zero_iff, trim_length]
  unfold trim at ht ⊢
  rw [hl, h, hz]
  by_cases h0 : trimN p p.length = 0
  · rw [if_pos h0, if_pos (ht.2 h0)]; rfl
  · rw [if_neg h0, if_neg (fun k => h0 (ht.1 k))]
    rw [List.take_append, List.take_of_length_le (by simp)]
    simp

/-- The product with a power of q. -/
def shiftP (p : List Int) (k : Int) : List Int := if k < 0 ∨ k > 60 then trim p else trim (List.replicate k.toNat 0 ++ p)
theorem shiftP_le (p : List Int) (k : Int) : (shiftP p k).length ≤ p.length + 60 := by
  unfold shiftP
  split
  · have := trim_le p; omega
  · have := trim_le (List.replicate k.toNat 0 ++ p)
    simp at this
    omega

theorem c_spec_ShiftPoly (p : List Int) (k : Int) (hp : p.length ≤ 1048576) : FunA B 26 [.sl false .int p, .int .i64 k] (fun rs o => rs = [.own 0 1] ∧ o = [.arr .int (shiftP p k) 1 true]) := by
  refine FunA.walk B_ok (fn := Try.f26) (fun vs w => Try.call26 vs w) Try.func26 rfl (by rw [Try.ntmps26]; simp) (fun C hC hP hT hΓ hbt hfn hpin hfin => ?_); have hX := BX; rw [← hΓ, ← hbt] at hX; rw [Try.ntmps26]; simp only [AW, Nat.reduceBEq, beq_self_eq_true, Nat.reduceLT, Nat.reduceSub, Nat.reduceAdd, Nat.reduceLeDiff, Nat.reduceMul, Nat.reduceEqDiff, Int.reduceToNat, Int.reduceSub, Int.reduceLT, Int.reduceLE, Int.reduceNeg, Int.reduceAdd, reduceCtorEq, hX]
  (repeat (first | refine Run.seq ?_ | refine Run.skip ?_ | refine Run.label ?_ | refine Run.block ?_ | refine Run.unblock ?_)); refine Run.regionW hC (fun K hK => ?_); simp only [AW, Nat.reduceBEq, beq_self_eq_true, Nat.reduceLT, Nat.reduceSub, Nat.reduceAdd, Nat.reduceLeDiff, Nat.reduceMul, Nat.reduceEqDiff, Int.reduceToNat, Int.reduceSub, Int.reduceLT, Int.reduceLE, Int.reduceNeg, Int.reduceAdd, reduceCtorEq, hX]; (repeat (with_reducible refine And.intro ?_ ?_); focus (first | omega | (intros; simp_all; done) | (intro h; simp only [Bool.and_eq_true, Bool.or_eq_true, decide_eq_true_eq, Bool.not_eq_true', beq_eq_false_iff_ne, beq_iff_eq, bne_iff_ne, ne_eq, decide_eq_false_iff_not] at h; omega) | (intros; simp_all; omega))); refine hK _ ?_; clear hK K; (repeat (first | refine Run.seq ?_ | refine Run.skip ?_ | refine Run.label ?_ | refine Run.block ?_ | refine Run.unblock ?_))
  (repeat (first | refine Run.seq ?_ | refine Run.skip ?_ | refine Run.label ?_ | refine Run.block ?_ | refine Run.unblock ?_)); refine Run.regionW hC (fun K hK => ?_); simp only [AW, Nat.reduceBEq, beq_self_eq_true, Nat.reduceLT, Nat.reduceSub, Nat.reduceAdd, Nat.reduceLeDiff, Nat.reduceMul, Nat.reduceEqDiff, Int.reduceToNat, Int.reduceSub, Int.reduceLT, Int.reduceLE, Int.reduceNeg, Int.reduceAdd, reduceCtorEq, hX]; (repeat (with_reducible refine And.intro ?_ ?_); focus (first | omega | (intros; simp_all; done) | (intro h; simp only [Bool.and_eq_true, Bool.or_eq_true, decide_eq_true_eq, Bool.not_eq_true', beq_eq_false_iff_ne, beq_iff_eq, bne_iff_ne, ne_eq, decide_eq_false_iff_not] at h; omega) | (intros; simp_all; omega))); refine hK _ ?_; clear hK K; (repeat (first | refine Run.seq ?_ | refine Run.skip ?_ | refine Run.label ?_ | refine Run.block ?_ | refine Run.unblock ?_))
  (repeat (first | refine Run.seq ?_ | refine Run.skip ?_ | refine Run.label ?_ | refine Run.block ?_ | refine Run.unblock ?_)); refine Run.condW (by simp only [AW, Nat.reduceBEq, beq_self_eq_true, Nat.reduceLT, Nat.reduceSub, Nat.reduceAdd, Nat.reduceLeDiff, Nat.reduceMul, Nat.reduceEqDiff, Int.reduceToNat, Int.reduceSub, Int.reduceLT, Int.reduceLE, Int.reduceNeg, Int.reduceAdd, reduceCtorEq, hX]; rfl) (by simp only [AW, Nat.reduceBEq, beq_self_eq_true, Nat.reduceLT, Nat.reduceSub, Nat.reduceAdd, Nat.reduceLeDiff, Nat.reduceMul, Nat.reduceEqDiff, Int.reduceToNat, Int.reduceSub, Int.reduceLT, Int.reduceLE, Int.reduceNeg, Int.reduceAdd, reduceCtorEq, hX]) ?_ ?_
  · intro hc
    (repeat (first | refine Run.seq ?_ | refine Run.skip ?_ | refine Run.label ?_ | refine Run.block ?_ | refine Run.unblock ?_)); refine Run.regionW hC (fun K hK => ?_); simp only [AW, Nat.reduceBEq, beq_self_eq_true, Nat.reduceLT, Nat.reduceSub, Nat.reduceAdd, Nat.reduceLeDiff, Nat.reduceMul, Nat.reduceEqDiff, Int.reduceToNat, Int.reduceSub, Int.reduceLT, Int.reduceLE, Int.reduceNeg, Int.reduceAdd, reduceCtorEq, hX]; (repeat (with_reducible refine And.intro ?_ ?_); focus (first | omega | (intros; simp_all; done) | (intro h; simp only [Bool.and_eq_true, Bool.or_eq_true, decide_eq_true_eq, Bool.not_eq_true', beq_eq_false_iff_ne, beq_iff_eq, bne_iff_ne, ne_eq, decide_eq_false_iff_not] at h; omega) | (intros; simp_all; omega)))
    refine FunA.callW hP hT (c_spec_TrimPoly p (by omega)) (by simp only [AW, Nat.reduceBEq, beq_self_eq_true, Nat.reduceLT, Nat.reduceSub, Nat.reduceAdd, Nat.reduceLeDiff, Nat.reduceMul, Nat.reduceEqDiff, Int.reduceToNat, Int.reduceSub, Int.reduceLT, Int.reduceLE, Int.reduceNeg, Int.reduceAdd, reduceCtorEq]) ?_
    rintro rs o ⟨rfl, rfl⟩
    simp only [AW, Nat.reduceBEq, beq_self_eq_true, Nat.reduceLT, Nat.reduceSub, Nat.reduceAdd, Nat.reduceLeDiff, Nat.reduceMul, Nat.reduceEqDiff, Int.reduceToNat, Int.reduceSub, Int.reduceLT, Int.reduceLE, Int.reduceNeg, Int.reduceAdd, reduceCtorEq, hX]
    (repeat (with_reducible refine And.intro ?_ ?_); focus (first | omega | (intros; simp_all; done) | (intro h; simp only [Bool.and_eq_true, Bool.or_eq_true, decide_eq_true_eq, Bool.not_eq_true', beq_eq_false_iff_ne, beq_iff_eq, bne_iff_ne, ne_eq, decide_eq_false_iff_not] at h; omega) | (intros; simp_all; omega))); refine hK _ ?_; clear hK K; (repeat (first | refine Run.seq ?_ | refine Run.skip ?_ | refine Run.label ?_ | refine Run.block ?_ | refine Run.unblock ?_))
    refine Run.retW [4] (by decide) (by rw [hfn]; rfl) (by simp only [AW, Nat.reduceBEq, beq_self_eq_true, Nat.reduceLT, Nat.reduceSub, Nat.reduceAdd, Nat.reduceLeDiff, Nat.reduceMul, Nat.reduceEqDiff, Int.reduceToNat, Int.reduceSub, Int.reduceLT, Int.reduceLE, Int.reduceNeg, Int.reduceAdd, reduceCtorEq, hX]; rfl) (by simp only [AW, Nat.reduceBEq, beq_self_eq_true, Nat.reduceLT, Nat.reduceSub, Nat.reduceAdd, Nat.reduceLeDiff, Nat.reduceMul, Nat.reduceEqDiff, Int.reduceToNat, Int.reduceSub, Int.reduceLT, Int.reduceLE, Int.reduceNeg, Int.reduceAdd, reduceCtorEq, hX]) (hfin _ _ rfl rfl ?_)
    refine ⟨rfl, ?_⟩
    have : trim p = shiftP p k := by
      unfold shiftP
      split
      · rfl
      · rename_i hk
        have hk1 : ¬ k < 0 := fun h => hk (.inl h)
        have hk2 : ¬ 60 < k := fun h => hk (.inr h)
        simp [hk1, hk2] at hc
        subst hc
        rw [trim_zeros]
        simp [trim, trimN]
    rw [this]
  · intro hc
    have hk : 0 ≤ k ∧ k ≤ 60 := by
      by_cases h1 : k < 0
      · simp [h1] at hc
      · by_cases h2 : 60 < k
        · simp [h1, h2] at hc
        · omega
    (repeat (first | refine Run.seq ?_ | refine Run.skip ?_ | refine Run.label ?_ | refine Run.block ?_ | refine Run.unblock ?_)); refine Run.regionW hC (fun K hK => ?_); simp only [AW, Nat.reduceBEq, beq_self_eq_true, Nat.reduceLT, Nat.reduceSub, Nat.reduceAdd, Nat.reduceLeDiff, Nat.reduceMul, Nat.reduceEqDiff, Int.reduceToNat, Int.reduceSub, Int.reduceLT, Int.reduceLE, Int.reduceNeg, Int.reduceAdd, reduceCtorEq, hX]; (repeat (with_reducible refine And.intro ?_ ?_); focus (first | omega | (intros; simp_all; done) | (intro h; simp only [Bool.and_eq_true, Bool.or_eq_true, decide_eq_true_eq, Bool.not_eq_true', beq_eq_false_iff_ne, beq_iff_eq, bne_iff_ne, ne_eq, decide_eq_false_iff_not] at h; omega) | (intros; simp_all; omega)))
    refine FunA.callW hP hT (c_spec_TrimPoly (List.replicate k.toNat 0 ++ p) (by simp; omega)) (by simp only [AW, Nat.reduceBEq, beq_self_eq_true, Nat.reduceLT, Nat.reduceSub, Nat.reduceAdd, Nat.reduceLeDiff, Nat.reduceMul, Nat.reduceEqDiff, Int.reduceToNat, Int.reduceSub, Int.reduceLT, Int.reduceLE, Int.reduceNeg, Int.reduceAdd, reduceCtorEq]) ?_
    rintro rs o ⟨rfl, rfl⟩
    simp only [AW, Nat.reduceBEq, beq_self_eq_true, Nat.reduceLT, Nat.reduceSub, Nat.reduceAdd, Nat.reduceLeDiff, Nat.reduceMul, Nat.reduceEqDiff, Int.reduceToNat, Int.reduceSub, Int.reduceLT, Int.reduceLE, Int.reduceNeg, Int.reduceAdd, reduceCtorEq, hX]
    (repeat (with_reducible refine And.intro ?_ ?_); focus (first | omega | (intros; simp_all; done) | (intro h; simp only [Bool.and_eq_true, Bool.or_eq_true, decide_eq_true_eq, Bool.not_eq_true', beq_eq_false_iff_ne, beq_iff_eq, bne_iff_ne, ne_eq, decide_eq_false_iff_not] at h; omega) | (intros; simp_all; omega))); refine hK _ ?_; clear hK K; (repeat (first | refine Run.seq ?_ | refine Run.skip ?_ | refine Run.label ?_ | refine Run.block ?_ | refine Run.unblock ?_))
    refine Run.le (Le.re (obs' := [.arr .int (trim (List.replicate k.toNat 0 ++ p)) 1 true]) hpin [1] [(4, true, .own 0 1)] rfl (by simp [leOs, leO_arr, oAt]) (by refine ⟨⟨_, rfl, ?_⟩, trivial⟩; simp [leAV, oAt, genO])) ?_
    simp only [frV_cons, frV_nil]
    refine Run.retW [4] (by decide) (by rw [hfn]; rfl) (by simp only [AW, Nat.reduceBEq, beq_self_eq_true, Nat.reduceLT, Nat.reduceSub, Nat.reduceAdd, Nat.reduceLeDiff, Nat.reduceMul, Nat.reduceEqDiff, Int.reduceToNat, Int.reduceSub, Int.reduceLT, Int.reduceLE, Int.reduceNeg, Int.reduceAdd, reduceCtorEq, hX]; rfl) (by simp only [AW, Nat.reduceBEq, beq_self_eq_true, Nat.reduceLT, Nat.reduceSub, Nat.reduceAdd, Nat.reduceLeDiff, Nat.reduceMul, Nat.reduceEqDiff, Int.reduceToNat, Int.reduceSub, Int.reduceLT, Int.reduceLE, Int.reduceNeg, Int.reduceAdd, reduceCtorEq, hX]) (hfin _ _ rfl rfl ?_)
    refine ⟨rfl, ?_⟩
    rw [show trim (List.replicate k.toNat 0 ++ p) = shiftP p k from by
      unfold shiftP
      rw [if_neg (by omega)]]

theorem c_impl_shifted (p : List Int) (k : Int) (hp : p.length ≤ 1048576) (hk : 0 ≤ k ∧ k ≤ 60) : FunA B 46 [.sl false .int p, .int .i64 k] (fun rs o => rs = [.own 0 1] ∧ o = [.arr .int (shiftP p k) 1 true]) := by
  have hs : shiftP p k = if trim p = [] then [] else List.replicate k.toNat 0 ++ trim p := by
    unfold shiftP
    rw [if_neg (by omega), trim_zeros]
  refine FunA.walk B_ok (fn := Try.f46) (fun vs w => Try.call46 vs w) Try.func46 rfl (by rw [Try.ntmps46]; simp) (fun C hC hP hT hΓ hbt hfn hpin hfin => ?_); have hX := BX; rw [← hΓ, ← hbt] at hX; rw [Try.ntmps46]; simp only [AW, Nat.reduceBEq, beq_self_eq_true, Nat.reduceLT, Nat.reduceSub, Nat.reduceAdd, Nat.reduceLeDiff, Nat.reduceMul, Nat.reduceEqDiff, Int.reduceToNat, Int.reduceSub, Int.reduceLT, Int.reduceLE, Int.reduceNeg, Int.reduceAdd, reduceCtorEq, hX]
  (repeat (first | refine Run.seq ?_ | refine Run.skip ?_ | refine Run.label ?_ | refine Run.block ?_ | refine Run.unblock ?_)); refine Run.regionW hC (fun K hK => ?_); simp only [AW, Nat.reduceBEq, beq_self_eq_true, Nat.reduceLT, Nat.reduceSub, Nat.reduceAdd, Nat.reduceLeDiff, Nat.reduceMul, Nat.reduceEqDiff, Int.reduceToNat, Int.reduceSub, Int.reduceLT, Int.reduceLE, Int.reduceNeg, Int.reduceAdd, reduceCtorEq, hX]; (repeat (with_reducible refine And.intro ?_ ?_); focus (first | omega | (intros; simp_all; done) | (intro h; simp only [Bool.and_eq_true, Bool.or_eq_true, decide_eq_true_eq, Bool.not_eq_true', beq_eq_false_iff_ne, beq_iff_eq, bne_iff_ne, ne_eq, decide_eq_false_iff_not] at h; omega) | (intros; simp_all; omega))); refine hK _ ?_; clear hK K; (repeat (first | refine Run.seq ?_ | refine Run.skip ?_ | refine Run.label ?_ | refine Run.block ?_ | refine Run.unblock ?_))
  (repeat (first | refine Run.seq ?_ | refine Run.skip ?_ | refine Run.label ?_ | refine Run.block ?_ | refine Run.unblock ?_)); refine Run.regionW hC (fun K hK => ?_); simp only [AW, Nat.reduceBEq, beq_self_eq_true, Nat.reduceLT, Nat.reduceSub, Nat.reduceAdd, Nat.reduceLeDiff, Nat.reduceMul, Nat.reduceEqDiff, Int.reduceToNat, Int.reduceSub, Int.reduceLT, Int.reduceLE, Int.reduceNeg, Int.reduceAdd, reduceCtorEq, hX]; (repeat (with_reducible refine And.intro ?_ ?_); focus (first | omega | (intros; simp_all; done) | (intro h; simp only [Bool.and_eq_true, Bool.or_eq_true, decide_eq_true_eq, Bool.not_eq_true', beq_eq_false_iff_ne, beq_iff_eq, bne_iff_ne, ne_eq, decide_eq_false_iff_not] at h; omega) | (intros; simp_all; omega)))
  refine FunA.callW hP hT (c_impl_TrimPoly p (by omega)) (by simp only [AW, Nat.reduceBEq, beq_self_eq_true, Nat.reduceLT, Nat.reduceSub, Nat.reduceAdd, Nat.reduceLeDiff, Nat.reduceMul, Nat.reduceEqDiff, Int.reduceToNat, Int.reduceSub, Int.reduceLT, Int.reduceLE, Int.reduceNeg, Int.reduceAdd, reduceCtorEq]) ?_
  rintro rs o ⟨rfl, rfl⟩
  simp only [AW, Nat.reduceBEq, beq_self_eq_true, Nat.reduceLT, Nat.reduceSub, Nat.reduceAdd, Nat.reduceLeDiff, Nat.reduceMul, Nat.reduceEqDiff, Int.reduceToNat, Int.reduceSub, Int.reduceLT, Int.reduceLE, Int.reduceNeg, Int.reduceAdd, reduceCtorEq, hX]
  (repeat (with_reducible refine And.intro ?_ ?_); focus (first | omega | (intros; simp_all; done) | (intro h; simp only [Bool.and_eq_true, Bool.or_eq_true, decide_eq_true_eq, Bool.not_eq_true', beq_eq_false_iff_ne, beq_iff_eq, bne_iff_ne, ne_eq, decide_eq_false_iff_not] at h; omega) | (intros; simp_all; omega))); refine hK _ ?_; clear hK K; (repeat (first | refine Run.seq ?_ | refine Run.skip ?_ | refine Run.label ?_ | refine Run.block ?_ | refine Run.unblock ?_))
  (repeat (first | refine Run.seq ?_ | refine Run.skip ?_ | refine Run.label ?_ | refine Run.block ?_ | refine Run.unblock ?_)); refine Run.regionW hC (fun K hK => ?_); simp only [AW, Nat.reduceBEq, beq_self_eq_true, Nat.reduceLT, Nat.reduceSub, Nat.reduceAdd, Nat.reduceLeDiff, Nat.reduceMul, Nat.reduceEqDiff, Int.reduceToNat, Int.reduceSub, Int.reduceLT, Int.reduceLE, Int.reduceNeg, Int.reduceAdd, reduceCtorEq, hX]; (repeat (with_reducible refine And.intro ?_ ?_); focus (first | omega | (intros; simp_all; done) | (intro h; simp only [Bool.and_eq_true, Bool.or_eq_true, decide_eq_true_eq, Bool.not_eq_true', beq_eq_false_iff_ne, beq_iff_eq, bne_iff_ne, ne_eq, decide_eq_false_iff_not] at h; omega) | (intros; simp_all; omega))); refine hK _ ?_; clear hK K; (repeat (first | refine Run.seq ?_ | refine Run.skip ?_ | refine Run.label ?_ | refine Run.block ?_ | refine Run.unblock ?_))
  (repeat (first | refine Run.seq ?_ | refine Run.skip ?_ | refine Run.label ?_ | refine Run.block ?_ | refine Run.unblock ?_)); refine Run.condW (by simp only [AW, Nat.reduceBEq, beq_self_eq_true, Nat.reduceLT, Nat.reduceSub, Nat.reduceAdd, Nat.reduceLeDiff, Nat.reduceMul, Nat.reduceEqDiff, Int.reduceToNat, Int.reduceSub, Int.reduceLT, Int.reduceLE, Int.reduceNeg, Int.reduceAdd, reduceCtorEq, hX]; rfl) (by simp only [AW, Nat.reduceBEq, beq_self_eq_true, Nat.reduceLT, Nat.reduceSub, Nat.reduceAdd, Nat.reduceLeDiff, Nat.reduceMul, Nat.reduceEqDiff, Int.reduceToNat, Int.reduceSub, Int.reduceLT, Int.reduceLE, Int.reduceNeg, Int.reduceAdd, reduceCtorEq, hX]) ?_ ?_
  · intro hc
    (repeat (first | refine Run.seq ?_ | refine Run.skip ?_ | refine Run.label ?_ | refine Run.block ?_ | refine Run.unblock ?_)); refine Run.regionW hC (fun K hK => ?_); simp only [AW, Nat.reduceBEq, beq_self_eq_true, Nat.reduceLT, Nat.reduceSub, Nat.reduceAdd, Nat.reduceLeDiff, Nat.reduceMul, Nat.reduceEqDiff, Int.reduceToNat, Int.reduceSub, Int.reduceLT, Int.reduceLE, Int.reduceNeg, Int.reduceAdd, reduceCtorEq, hX]; (repeat (with_reducible refine And.intro ?_ ?_); focus (first | omega | (intros; simp_all; done) | (intro h; simp only [Bool.and_eq_true, Bool.or_eq_true, decide_eq_true_eq, Bool.not_eq_true', beq_eq_false_iff_ne, beq_iff_eq, bne_iff_ne, ne_eq, decide_eq_false_iff_not] at h; omega) | (intros; simp_all; omega))); refine hK _ ?_; clear hK K; (repeat (first | refine Run.seq ?_ | refine Run.skip ?_ | refine Run.label ?_ | refine Run.block ?_ | refine Run.unblock ?_))
    refine Run.retW [4] (by decide) (by rw [hfn]; rfl) (by simp only [AW, Nat.reduceBEq, beq_self_eq_true, Nat.reduceLT, Nat.reduceSub, Nat.reduceAdd, Nat.reduceLeDiff, Nat.reduceMul, Nat.reduceEqDiff, Int.reduceToNat, Int.reduceSub, Int.reduceLT, Int.reduceLE, Int.reduceNeg, Int.reduceAdd, reduceCtorEq, hX]; rfl) (by simp only [AW, Nat.reduceBEq, beq_self_eq_true, Nat.reduceLT, Nat.reduceSub, Nat.reduceAdd, Nat.reduceLeDiff, Nat.reduceMul, Nat.reduceEqDiff, Int.reduceToNat, Int.reduceSub, Int.reduceLT, Int.reduceLE, Int.reduceNeg, Int.reduceAdd, reduceCtorEq, hX]) (hfin _ _ rfl rfl ?_)
    have h0 : trim p = [] := by simpa using hc
    rw [hs, if_pos h0, h0]
    simp
  · intro hc
    have h0 : trim p ≠ [] := by simpa using hc
    have := trim_le p
    (repeat (first | refine Run.seq ?_ | refine Run.skip ?_ | refine Run.label ?_ | refine Run.block ?_ | refine Run.unblock ?_)); refine Run.regionW hC (fun K hK => ?_); simp only [AW, Nat.reduceBEq, beq_self_eq_true, Nat.reduceLT, Nat.reduceSub, Nat.reduceAdd, Nat.reduceLeDiff, Nat.reduceMul, Nat.reduceEqDiff, Int.reduceToNat, Int.reduceSub, Int.reduceLT, Int.reduceLE, Int.reduceNeg, Int.reduceAdd, reduceCtorEq, hX]; (repeat (with_reducible refine And.intro ?_ ?_); focus (first | omega | (intros; simp_all; done) | (intro h; simp only [Bool.and_eq_true, Bool.or_eq_true, decide_eq_true_eq, Bool.not_eq_true', beq_eq_false_iff_ne, beq_iff_eq, bne_iff_ne, ne_eq, decide_eq_false_iff_not] at h; omega) | (intros; simp_all; omega))); refine hK _ ?_; clear hK K; (repeat (first | refine Run.seq ?_ | refine Run.skip ?_ | refine Run.label ?_ | refine Run.block ?_ | refine Run.unblock ?_))
    refine Run.le (Le.re (obs' := [.arr .int (List.replicate k.toNat 0 ++ trim p) 1 true]) hpin [1] [(4, true, .own 0 1)] rfl (by simp [leOs, leO_arr, oAt]) (by refine ⟨⟨_, rfl, ?_⟩, trivial⟩; simp [leAV, oAt, genO])) ?_
    simp only [frV_cons, frV_nil]
    refine Run.retW [4] (by decide) (by rw [hfn]; rfl) (by simp only [AW, Nat.reduceBEq, beq_self_eq_true, Nat.reduceLT, Nat.reduceSub, Nat.reduceAdd, Nat.reduceLeDiff, Nat.reduceMul, Nat.reduceEqDiff, Int.reduceToNat, Int.reduceSub, Int.reduceLT, Int.reduceLE, Int.reduceNeg, Int.reduceAdd, reduceCtorEq, hX]; rfl) (by simp only [AW, Nat.reduceBEq, beq_self_eq_true, Nat.reduceLT, Nat.reduceSub, Nat.reduceAdd, Nat.reduceLeDiff, Nat.reduceMul, Nat.reduceEqDiff, Int.reduceToNat, Int.reduceSub, Int.reduceLT, Int.reduceLE, Int.reduceNeg, Int.reduceAdd, reduceCtorEq, hX]) (hfin _ _ rfl rfl ?_)
    rw [hs, if_neg h0]
    simp

theorem c_impl_ShiftPoly (p : List Int) (k : Int) (hp : p.length ≤ 1048576) : FunA B 27 [.sl false .int p, .int .i64 k] (fun rs o => rs = [.own 0 1] ∧ o = [.arr .int (shiftP p k) 1 true]) := by
  refine FunA.walk B_ok (fn := Try.f27) (fun vs w => Try.call27 vs w) Try.func27 rfl (by rw [Try.ntmps27]; simp) (fun C hC hP hT hΓ hbt hfn hpin hfin => ?_); have hX := BX; rw [← hΓ, ← hbt] at hX; rw [Try.ntmps27]; simp only [AW, Nat.reduceBEq, beq_self_eq_true, Nat.reduceLT, Nat.reduceSub, Nat.reduceAdd, Nat.reduceLeDiff, Nat.reduceMul, Nat.reduceEqDiff, Int.reduceToNat, Int.reduceSub, Int.reduceLT, Int.reduceLE, Int.reduceNeg, Int.reduceAdd, reduceCtorEq, hX]
  (repeat (first | refine Run.seq ?_ | refine Run.skip ?_ | refine Run.label ?_ | refine Run.block ?_ | refine Run.unblock ?_)); refine Run.regionW hC (fun K hK => ?_); simp only [AW, Nat.reduceBEq, beq_self_eq_true, Nat.reduceLT, Nat.reduceSub, Nat.reduceAdd, Nat.reduceLeDiff, Nat.reduceMul, Nat.reduceEqDiff, Int.reduceToNat, Int.reduceSub, Int.reduceLT, Int.reduceLE, Int.reduceNeg, Int.reduceAdd, reduceCtorEq, hX]; (repeat (with_reducible refine And.intro ?_ ?_); focus (first | omega | (intros; simp_all; done) | (intro h; simp only [Bool.and_eq_true, Bool.or_eq_true, decide_eq_true_eq, Bool.not_eq_true', beq_eq_false_iff_ne, beq_iff_eq, bne_iff_ne, ne_eq, decide_eq_false_iff_not] at h; omega) | (intros; simp_all; omega))); refine hK _ ?_; clear hK K; (repeat (first | refine Run.seq ?_ | refine Run.skip ?_ | refine Run.label ?_ | refine Run.block ?_ | refine Run.unblock ?_))
  (repeat (first | refine Run.seq ?_ | refine Run.skip ?_ | refine Run.label ?_ | refine Run.block ?_ | refine Run.unblock ?_)); refine Run.regionW hC (fun K hK => ?_); simp only [AW, Nat.reduceBEq, beq_self_eq_true, Nat.reduceLT, Nat.reduceSub, Nat.reduceAdd, Nat.reduceLeDiff, Nat.reduceMul, Nat.reduceEqDiff, Int.reduceToNat, Int.reduceSub, Int.reduceLT, Int.reduceLE, Int.reduceNeg, Int.reduceAdd, reduceCtorEq, hX]; (repeat (with_reducible refine And.intro ?_ ?_); focus (first | omega | (intros; simp_all; done) | (intro h; simp only [Bool.and_eq_true, Bool.or_eq_true, decide_eq_true_eq, Bool.not_eq_true', beq_eq_false_iff_ne, beq_iff_eq, bne_iff_ne, ne_eq, decide_eq_false_iff_not] at h; omega) | (intros; simp_all; omega))); refine hK _ ?_; clear hK K; (repeat (first | refine Run.seq ?_ | refine Run.skip ?_ | refine Run.label ?_ | refine Run.block ?_ | refine Run.unblock ?_))
  (repeat (first | refine Run.seq ?_ | refine Run.skip ?_ | refine Run.label ?_ | refine Run.block ?_ | refine Run.unblock ?_)); refine Run.condW (by simp only [AW, Nat.reduceBEq, beq_self_eq_true, Nat.reduceLT, Nat.reduceSub, Nat.reduceAdd, Nat.reduceLeDiff, Nat.reduceMul, Nat.reduceEqDiff, Int.reduceToNat, Int.reduceSub, Int.reduceLT, Int.reduceLE, Int.reduceNeg, Int.reduceAdd, reduceCtorEq, hX]; rfl) (by simp only [AW, Nat.reduceBEq, beq_self_eq_true, Nat.reduceLT, Nat.reduceSub, Nat.reduceAdd, Nat.reduceLeDiff, Nat.reduceMul, Nat.reduceEqDiff, Int.reduceToNat, Int.reduceSub, Int.reduceLT, Int.reduceLE, Int.reduceNeg, Int.reduceAdd, reduceCtorEq, hX]) ?_ ?_
  · intro hc
    (repeat (first | refine Run.seq ?_ | refine Run.skip ?_ | refine Run.label ?_ | refine Run.block ?_ | refine Run.unblock ?_)); refine Run.regionW hC (fun K hK => ?_); simp only [AW, Nat.reduceBEq, beq_self_eq_true, Nat.reduceLT, Nat.reduceSub, Nat.reduceAdd, Nat.reduceLeDiff, Nat.reduceMul, Nat.reduceEqDiff, Int.reduceToNat, Int.reduceSub, Int.reduceLT, Int.reduceLE, Int.reduceNeg, Int.reduceAdd, reduceCtorEq, hX]; (repeat (with_reducible refine And.intro ?_ ?_); focus (first | omega | (intros; simp_all; done) | (intro h; simp only [Bool.and_eq_true, Bool.or_eq_true, decide_eq_true_eq, Bool.not_eq_true', beq_eq_false_iff_ne, beq_iff_eq, bne_iff_ne, ne_eq, decide_eq_false_iff_not] at h; omega) | (intros; simp_all; omega)))
    refine FunA.callW hP hT (c_impl_TrimPoly p (by omega)) (by simp only [AW, Nat.reduceBEq, beq_self_eq_true, Nat.reduceLT, Nat.reduceSub, Nat.reduceAdd, Nat.reduceLeDiff, Nat.reduceMul, Nat.reduceEqDiff, Int.reduceToNat, Int.reduceSub, Int.reduceLT, Int.reduceLE, Int.reduceNeg, Int.reduceAdd, reduceCtorEq]) ?_
    rintro rs o ⟨rfl, rfl⟩
    simp only [AW, Nat.reduceBEq, beq_self_eq_true, Nat.reduceLT, Nat.reduceSub, Nat.reduceAdd, Nat.reduceLeDiff, Nat.reduceMul, Nat.reduceEqDiff, Int.reduceToNat, Int.reduceSub, Int.reduceLT, Int.reduceLE, Int.reduceNeg, Int.reduceAdd, reduceCtorEq, hX]
    (repeat (with_reducible refine And.intro ?_ ?_); focus (first | omega | (intros; simp_all; done) | (intro h; simp only [Bool.and_eq_true, Bool.or_eq_true, decide_eq_true_eq, Bool.not_eq_true', beq_eq_false_iff_ne, beq_iff_eq, bne_iff_ne, ne_eq, decide_eq_false_iff_not] at h; omega) | (intros; simp_all; omega))); refine hK _ ?_; clear hK K; (repeat (first | refine Run.seq ?_ | refine Run.skip ?_ | refine Run.label ?_ | refine Run.block ?_ | refine Run.unblock ?_))
    refine Run.retW [4] (by decide) (by rw [hfn]; rfl) (by simp only [AW, Nat.reduceBEq, beq_self_eq_true, Nat.reduceLT, Nat.reduceSub, Nat.reduceAdd, Nat.reduceLeDiff, Nat.reduceMul, Nat.reduceEqDiff, Int.reduceToNat, Int.reduceSub, Int.reduceLT, Int.reduceLE, Int.reduceNeg, Int.reduceAdd, reduceCtorEq, hX]; rfl) (by simp only [AW, Nat.reduceBEq, beq_self_eq_true, Nat.reduceLT, Nat.reduceSub, Nat.reduceAdd, Nat.reduceLeDiff, Nat.reduceMul, Nat.reduceEqDiff, Int.reduceToNat, Int.reduceSub, Int.reduceLT, Int.reduceLE, Int.reduceNeg, Int.reduceAdd, reduceCtorEq, hX]) (hfin _ _ rfl rfl ?_)
    refine ⟨rfl, ?_⟩
    have : trim p = shiftP p k := by
      unfold shiftP
      rw [if_pos]
      by_cases h1 : k < 0
      · exact .inl h1
      · simp [h1] at hc
        exact .inr hc
    rw [this]
  · intro hc
    have hk : 0 ≤ k ∧ k ≤ 60 := by
      by_cases h1 : k < 0
      · simp [h1] at hc
      · by_cases h2 : 60 < k
        · simp [h1, h2] at hc
        · omega
    (repeat (first | refine Run.seq ?_ | refine Run.skip ?_ | refine Run.label ?_ | refine Run.block ?_ | refine Run.unblock ?_)); refine Run.regionW hC (fun K hK => ?_); simp only [AW, Nat.reduceBEq, beq_self_eq_true, Nat.reduceLT, Nat.reduceSub, Nat.reduceAdd, Nat.reduceLeDiff, Nat.reduceMul, Nat.reduceEqDiff, Int.reduceToNat, Int.reduceSub, Int.reduceLT, Int.reduceLE, Int.reduceNeg, Int.reduceAdd, reduceCtorEq, hX]; (repeat (with_reducible refine And.intro ?_ ?_); focus (first | omega | (intros; simp_all; done) | (intro h; simp only [Bool.and_eq_true, Bool.or_eq_true, decide_eq_true_eq, Bool.not_eq_true', beq_eq_false_iff_ne, beq_iff_eq, bne_iff_ne, ne_eq, decide_eq_false_iff_not] at h; omega) | (intros; simp_all; omega)))
    refine FunA.callW hP hT (c_impl_shifted p k hp hk) (by simp only [AW, Nat.reduceBEq, beq_self_eq_true, Nat.reduceLT, Nat.reduceSub, Nat.reduceAdd, Nat.reduceLeDiff, Nat.reduceMul, Nat.reduceEqDiff, Int.reduceToNat, Int.reduceSub, Int.reduceLT, Int.reduceLE, Int.reduceNeg, Int.reduceAdd, reduceCtorEq]) ?_
    rintro rs o ⟨rfl, rfl⟩
    simp only [AW, Nat.reduceBEq, beq_self_eq_true, Nat.reduceLT, Nat.reduceSub, Nat.reduceAdd, Nat.reduceLeDiff, Nat.reduceMul, Nat.reduceEqDiff, Int.reduceToNat, Int.reduceSub, Int.reduceLT, Int.reduceLE, Int.reduceNeg, Int.reduceAdd, reduceCtorEq, hX]
    (repeat (with_reducible refine And.intro ?_ ?_); focus (first | omega | (intros; simp_all; done) | (intro h; simp only [Bool.and_eq_true, Bool.or_eq_true, decide_eq_true_eq, Bool.not_eq_true', beq_eq_false_iff_ne, beq_iff_eq, bne_iff_ne, ne_eq, decide_eq_false_iff_not] at h; omega) | (intros; simp_all; omega))); refine hK _ ?_; clear hK K; (repeat (first | refine Run.seq ?_ | refine Run.skip ?_ | refine Run.label ?_ | refine Run.block ?_ | refine Run.unblock ?_))
    refine Run.retW [4] (by decide) (by rw [hfn]; rfl) (by simp only [AW, Nat.reduceBEq, beq_self_eq_true, Nat.reduceLT, Nat.reduceSub, Nat.reduceAdd, Nat.reduceLeDiff, Nat.reduceMul, Nat.reduceEqDiff, Int.reduceToNat, Int.reduceSub, Int.reduceLT, Int.reduceLE, Int.reduceNeg, Int.reduceAdd, reduceCtorEq, hX]; rfl) (by simp only [AW, Nat.reduceBEq, beq_self_eq_true, Nat.reduceLT, Nat.reduceSub, Nat.reduceAdd, Nat.reduceLeDiff, Nat.reduceMul, Nat.reduceEqDiff, Int.reduceToNat, Int.reduceSub, Int.reduceLT, Int.reduceLE, Int.reduceNeg, Int.reduceAdd, reduceCtorEq, hX]) (hfin _ _ rfl rfl ?_)
    exact ⟨rfl, rfl⟩
end Go.Proofs.Ytjmhkklhcllgcaa

/- Products of polynomials. -/
import Derived.Test.YtjmhkklhcllgcaaPoly4
set_option linter.unusedVariables false
set_option linter.unusedSimpArgs false
namespace Go.Proofs.Ytjmhkklhcllgcaa
open Go Go.Aw

def mulIn (b : List Int) (x : Int) (i : Nat) (o : List Int) : Nat → List Int
  | 0 => o
  | k + 1 => (mulIn b x i o k).set (i + k) (IntKind.i64.wrap ((mulIn b x i o k).getD (i + k) 0 + IntKind.i64.wrap (x * b.getD k 0)))
def mulOut (a b : List Int) (n : Nat) : Nat → List Int
  | 0 => List.replicate n 0
  | i + 1 => mulIn b (a.getD i 0) i (mulOut a b n i) b.length
theorem mulIn_length (b : List Int) (x : Int) (i : Nat) (o : List Int) : ∀ k, (mulIn b x i o k).length = o.length
  | 0 => rfl
  | k + 1 => by simp [mulIn, mulIn_length b x i o k]
theorem mulOut_length (a b : List Int) (n : Nat) : ∀ i, (mulOut a b n i).length = n
  | 0 => by simp [mulOut]
  | i + 1 => by simp [mulOut, mulIn_length, mulOut_length a b n i]
def mulC (a b : List Int) : Prop := a.length = 0 ∨ b.length = 0 ∨ a.length + b.length > 62
instance (a b : List Int) : Decidable (mulC a b) := by unfold mulC; infer_instance
def mulP (a b : List Int) : List Int := if mulC a b then [] else trim (mulOut a b (a.length + b.length - 1) a.length)
theorem mulP_le (a b : List Int) : (mulP a b).length ≤ 61 := by
  unfold mulP
  split
  · simp
  · rename_i h
    have := trim_le (mulOut a b (a.length + b.length - 1) a.length)
    rw [mulOut_length] at this
    unfold mulC at h
    omega

theorem c_spec_MulPoly (a b : List Int) (ha : a.length ≤ 1048576) (hb : b.length ≤ 1048576) : FunA B 32 [.sl false .int a, .sl false .int b] (fun rs o => rs = [.own 0 1] ∧ o = [.arr .int (mulP a b) 1 true]) := by
  refine FunA.walk B_ok (fn := Try.f32) (fun vs w => Try.call32 vs w) Try.func32 rfl (by rw [Try.ntmps32]; simp) (fun C hC hP hT hΓ hbt hfn hpin hfin => ?_); have hX := BX; rw [← hΓ, ← hbt] at hX; rw [Try.ntmps32]; simp only [AW, Nat.reduceBEq, beq_self_eq_true, Nat.reduceLT, Nat.reduceSub, Nat.reduceAdd, Nat.reduceLeDiff, Nat.reduceMul, Nat.reduceEqDiff, Int.reduceToNat, Int.reduceSub, Int.reduceLT, Int.reduceLE, Int.reduceNeg, Int.reduceAdd, reduceCtorEq, hX]
  (repeat (first | refine Run.seq ?_ | refine Run.skip ?_ | refine Run.label ?_ | refine Run.block ?_ | refine Run.unblock ?_)); refine Run.regionW hC (fun K hK => ?_); simp only [AW, Nat.reduceBEq, beq_self_eq_true, Nat.reduceLT, Nat.reduceSub, Nat.reduceAdd, Nat.reduceLeDiff, Nat.reduceMul, Nat.reduceEqDiff, Int.reduceToNat, Int.reduceSub, Int.reduceLT, Int.reduceLE, Int.reduceNeg, Int.reduceAdd, reduceCtorEq, hX]; (repeat (with_reducible refine And.intro ?_ ?_); focus (first | omega | (intros; simp_all; done) | (intro h; simp only [Bool.and_eq_true, Bool.or_eq_true, decide_eq_true_eq, Bool.not_eq_true', beq_eq_false_iff_ne, beq_iff_eq, bne_iff_ne, ne_eq, decide_eq_false_iff_not] at h; omega) | (intros; simp_all; omega))); refine hK _ ?_; clear hK K; (repeat (first | refine Run.seq ?_ | refine Run.skip ?_ | refine Run.label ?_ | refine Run.block ?_ | refine Run.unblock ?_))
  (repeat (first | refine Run.seq ?_ | refine Run.skip ?_ | refine Run.label ?_ | refine Run.block ?_ | refine Run.unblock ?_)); refine Run.regionW hC (fun K hK => ?_); simp (disch := omega) only [wrap_id, AW, Nat.reduceBEq, beq_self_eq_true, Nat.reduceLT, Nat.reduceSub, Nat.reduceAdd, Nat.reduceLeDiff, Nat.reduceMul, Nat.reduceEqDiff, Int.reduceToNat, Int.reduceSub, Int.reduceLT, Int.reduceLE, Int.reduceNeg, Int.reduceAdd, reduceCtorEq, hX]; (repeat (with_reducible refine And.intro ?_ ?_); focus (first | omega | (intros; simp_all; done) | (intro h; simp only [Bool.and_eq_true, Bool.or_eq_true, decide_eq_true_eq, Bool.not_eq_true', beq_eq_false_iff_ne, beq_iff_eq, bne_iff_ne, ne_eq, decide_eq_false_iff_not] at h; omega) | (intros; simp_all; omega))); refine hK _ ?_; clear hK K; (repeat (first | refine Run.seq ?_ | refine Run.skip ?_ | refine Run.label ?_ | refine Run.block ?_ | refine Run.unblock ?_))
  refine Run.keep [0, 1, 4, 23] ?_; simp only [AK, Nat.reduceBEq]
  (repeat (first | refine Run.seq ?_ | refine Run.skip ?_ | refine Run.label ?_ | refine Run.block ?_ | refine Run.unblock ?_)); refine Run.condW (by simp only [AW, Nat.reduceBEq, beq_self_eq_true, Nat.reduceLT, Nat.reduceSub, Nat.reduceAdd, Nat.reduceLeDiff, Nat.reduceMul, Nat.reduceEqDiff, Int.reduceToNat, Int.reduceSub, Int.reduceLT, Int.reduceLE, Int.reduceNeg, Int.reduceAdd, reduceCtorEq, hX]; rfl) (by simp only [AW, Nat.reduceBEq, beq_self_eq_true, Nat.reduceLT, Nat.reduceSub, Nat.reduceAdd, Nat.reduceLeDiff, Nat.reduceMul, Nat.reduceEqDiff, Int.reduceToNat, Int.reduceSub, Int.reduceLT, Int.reduceLE, Int.reduceNeg, Int.reduceAdd, reduceCtorEq, hX]) ?_ ?_
  · intro hc
    have hm : mulC a b := by
      unfold mulC
      by_cases h1 : a.length = 0
      · exact .inl h1
      · by_cases h2 : b.length = 0
        · exact .inr (.inl h2)
        · have h1' : ((a.length : Int) == 0) = false := by simpa using h1
          have h2' : ((b.length : Int) == 0) = false := by simpa using h2
          rw [h1', h2'] at hc
          simp at hc
          omega
    (repeat (first | refine Run.seq ?_ | refine Run.skip ?_ | refine Run.label ?_ | refine Run.block ?_ | refine Run.unblock ?_)); refine Run.regionW hC (fun K hK => ?_); simp only [AW, Nat.reduceBEq, beq_self_eq_true, Nat.reduceLT, Nat.reduceSub, Nat.reduceAdd, Nat.reduceLeDiff, Nat.reduceMul, Nat.reduceEqDiff, Int.reduceToNat, Int.reduceSub, Int.reduceLT, Int.reduceLE, Int.reduceNeg, Int.reduceAdd, reduceCtorEq, hX]; (repeat (with_reducible refine And.intro ?_ ?_); focus (first | omega | (intros; simp_all; done) | (intro h; simp only [Bool.and_eq_true, Bool.or_eq_true, decide_eq_true_eq, Bool.not_eq_true', beq_eq_false_iff_ne, beq_iff_eq, bne_iff_ne, ne_eq, decide_eq_false_iff_not] at h; omega) | (intros; simp_all; omega))); refine hK _ ?_; clear hK K; (repeat (first | refine Run.seq ?_ | refine Run.skip ?_ | refine Run.label ?_ | refine Run.block ?_ | refine Run.unblock ?_))
    refine Run.le (Le.re (obs' := [.arr .int [] 1 true]) hpin [0] [(4, true, .own 0 1)] rfl (by simp [leOs, leO_arr, oAt]) (by refine ⟨⟨_, rfl, ?_⟩, trivial⟩; simp [leAV, oAt, genO])) ?_
    simp only [frV_cons, frV_nil]
    refine Run.retW [4] (by decide) (by rw [hfn]; rfl) (by simp only [AW, Nat.reduceBEq, beq_self_eq_true, Nat.reduceLT, Nat.reduceSub, Nat.reduceAdd, Nat.reduceLeDiff, Nat.reduceMul, Nat.reduceEqDiff, Int.reduceToNat, Int.reduceSub, Int.reduceLT, Int.reduceLE, Int.reduceNeg, Int.reduceAdd, reduceCtorEq, hX]; rfl) (by simp only [AW, Nat.reduceBEq, beq_self_eq_true, Nat.reduceLT, Nat.reduceSub, Nat.reduceAdd, Nat.reduceLeDiff, Nat.reduceMul, Nat.reduceEqDiff, Int.reduceToNat, Int.reduceSub, Int.reduceLT, Int.reduceLE, Int.reduceNeg, Int.reduceAdd, reduceCtorEq, hX]) (hfin _ _ rfl rfl ?_)
    simp [mulP, hm]
  · intro hc
    have hm : ¬ mulC a b := by
      unfold mulC
      intro h
      have h1' : ((a.length : Int) == 0) = false := by
        by_cases h1 : a.length = 0
        · simp [h1] at hc
        · simpa using h1
      have h2' : ((b.length : Int) == 0) = false := by
        by_cases h2 : b.length = 0
        · rw [h1'] at hc; simp [h2] at hc
        · simpa using h2
      rw [h1', h2'] at hc
      simp at hc h1' h2'
      rcases h with h | h | h
      · exact h1' (List.length_eq_zero_iff.1 h)
      · exact h2' (List.length_eq_zero_iff.1 h)
      · omega
    have hm' := hm
    unfold mulC at hm'
    have hN : (mulOut a b (a.length + b.length - 1) 0) = List.replicate ((a.length : Int) + b.length - 1).toNat 0 := by
      simp only [mulOut]
      congr 1
      omega
    (repeat (first | refine Run.seq ?_ | refine Run.skip ?_ | refine Run.label ?_ | refine Run.block ?_ | refine Run.unblock ?_)); refine Run.regionW hC (fun K hK => ?_); simp (disch := omega) only [wrap_id, AW, Nat.reduceBEq, beq_self_eq_true, Nat.reduceLT, Nat.reduceSub, Nat.reduceAdd, Nat.reduceLeDiff, Nat.reduceMul, Nat.reduceEqDiff, Int.reduceToNat, Int.reduceSub, Int.reduceLT, Int.reduceLE, Int.reduceNeg, Int.reduceAdd, reduceCtorEq, hX]; (repeat (with_reducible refine And.intro ?_ ?_); focus (first | omega | (intros; simp_all; done) | (intro h; simp only [Bool.and_eq_true, Bool.or_eq_true, decide_eq_true_eq, Bool.not_eq_true', beq_eq_false_iff_ne, beq_iff_eq, bne_iff_ne, ne_eq, decide_eq_false_iff_not] at h; omega) | (intros; simp_all; omega))); refine hK _ ?_; clear hK K; (repeat (first | refine Run.seq ?_ | refine Run.skip ?_ | refine Run.label ?_ | refine Run.block ?_ | refine Run.unblock ?_))
    (repeat (first | refine Run.seq ?_ | refine Run.skip ?_ | refine Run.label ?_ | refine Run.block ?_ | refine Run.unblock ?_)); refine Run.regionW hC (fun K hK => ?_); simp only [AW, Nat.reduceBEq, beq_self_eq_true, Nat.reduceLT, Nat.reduceSub, Nat.reduceAdd, Nat.reduceLeDiff, Nat.reduceMul, Nat.reduceEqDiff, Int.reduceToNat, Int.reduceSub, Int.reduceLT, Int.reduceLE, Int.reduceNeg, Int.reduceAdd, reduceCtorEq, hX]; (repeat (with_reducible refine And.intro ?_ ?_); focus (first | omega | (intros; simp_all; done) | (intro h; simp only [Bool.and_eq_true, Bool.or_eq_true, decide_eq_true_eq, Bool.not_eq_true', beq_eq_false_iff_ne, beq_iff_eq, bne_iff_ne, ne_eq, decide_eq_false_iff_not] at h; omega) | (intros; simp_all; omega))); refine hK _ ?_; clear hK K; (repeat (first | refine Run.seq ?_ | refine Run.skip ?_ | refine Run.label ?_ | refine Run.block ?_ | refine Run.unblock ?_))
    refine Run.keep [0, 1, 4, 5, 6] ?_; simp only [AK, Nat.reduceBEq]
    refine Run.loopI (X := Nat) (fun i => ⟨67, [(0, true, .v (.sl false .int a)), (1, true, .v (.sl false .int b)), (4, true, .v .nils), (5, true, .v (.own 0 0)), (6, true, .v (.int .i64 i))], [.arr .int (mulOut a b (a.length + b.length - 1) i) 0 true]⟩) (fun i => i ≤ a.length) (fun i => a.length - i) 0 (Nat.zero_le _) ?_ ?_
    · refine Le.sub (by rw [hN]) ?_
      simp only [AW, Nat.reduceBEq, beq_self_eq_true, Nat.reduceLT, Nat.reduceSub, Nat.reduceAdd, Nat.reduceLeDiff, Nat.reduceMul, Nat.reduceEqDiff, Int.reduceToNat, Int.reduceSub, Int.reduceLT, Int.reduceLE, Int.reduceNeg, Int.reduceAdd, reduceCtorEq, hX]; simp
    rintro i hi ih
    have hol := mulOut_length a b (a.length + b.length - 1) i
    (repeat (first | refine Run.seq ?_ | refine Run.skip ?_ | refine Run.label ?_ | refine Run.block ?_ | refine Run.unblock ?_)); refine Run.regionW hC (fun K hK => ?_); simp only [AW, Nat.reduceBEq, beq_self_eq_true, Nat.reduceLT, Nat.reduceSub, Nat.reduceAdd, Nat.reduceLeDiff, Nat.reduceMul, Nat.reduceEqDiff, Int.reduceToNat, Int.reduceSub, Int.reduceLT, Int.reduceLE, Int.reduceNeg, Int.reduceAdd, reduceCtorEq, hX]; (repeat (with_reducible refine And.intro ?_ ?_); focus (first | omega | (intros; simp_all; done) | (intro h; simp only [Bool.and_eq_true, Bool.or_eq_true, decide_eq_true_eq, Bool.not_eq_true', beq_eq_false_iff_ne, beq_iff_eq, bne_iff_ne, ne_eq, decide_eq_false_iff_not] at h; omega) | (intros; simp_all; omega))); refine hK _ ?_; clear hK K; (repeat (first | refine Run.seq ?_ | refine Run.skip ?_ | refine Run.label ?_ | refine Run.block ?_ | refine Run.unblock ?_))
    (repeat (first | refine Run.seq ?_ | refine Run.skip ?_ | refine Run.label ?_ | refine Run.block ?_ | refine Run.unblock ?_)); refine Run.condW (by simp only [AW, Nat.reduceBEq, beq_self_eq_true, Nat.reduceLT, Nat.reduceSub, Nat.reduceAdd, Nat.reduceLeDiff, Nat.reduceMul, Nat.reduceEqDiff, Int.reduceToNat, Int.reduceSub, Int.reduceLT, Int.reduceLE, Int.reduceNeg, Int.reduceAdd, reduceCtorEq, hX]; rfl) (by simp only [AW, Nat.reduceBEq, beq_self_eq_true, Nat.reduceLT, Nat.reduceSub, Nat.reduceAdd, Nat.reduceLeDiff, Nat.reduceMul, Nat.reduceEqDiff, Int.reduceToNat, Int.reduceSub, Int.reduceLT, Int.reduceLE, Int.reduceNeg, Int.reduceAdd, reduceCtorEq, hX]) ?_ ?_
    · intro hc2
      have hc2 : i < a.length := by simpa using hc2
      (repeat (first | refine Run.seq ?_ | refine Run.skip ?_ | refine Run.label ?_ | refine Run.block ?_ | refine Run.unblock ?_)); refine Run.regionW hC (fun K hK => ?_); simp only [AW, Nat.reduceBEq, beq_self_eq_true, Nat.reduceLT, Nat.reduceSub, Nat.reduceAdd, Nat.reduceLeDiff, Nat.reduceMul, Nat.reduceEqDiff, Int.reduceToNat, Int.reduceSub, Int.reduceLT, Int.reduceLE, Int.reduceNeg, Int.reduceAdd, reduceCtorEq, hX]; (repeat (with_reducible refine And.intro ?_ ?_); focus (first | omega | (intros; simp_all; done) | (intro h; simp only [Bool.and_eq_true, Bool.or_eq_true, decide_eq_true_eq, Bool.not_eq_true', beq_eq_false_iff_ne, beq_iff_eq, bne_iff_ne, ne_eq, decide_eq_false_iff_not] at h; omega) | (intros; simp_all; omega))); refine hK _ ?_; clear hK K; (repeat (first | refine Run.seq ?_ | refine Run.skip ?_ | refine Run.label ?_ | refine Run.block ?_ | refine Run.unblock ?_))
      refine Run.loopI (X := Nat) (fun k => ⟨67, [(0, true, .v (.sl false .int a)), (1, true, .v (.sl false .int b)), (4, true, .v .nils), (5, true, .v (.own 0 0)), (6, true, .v (.int .i64 i)), (7, true, .v (.int .i64 k))], [.arr .int (mulIn b (a.getD i 0) i (mulOut a b (a.length + b.length - 1) i) k) 0 true]⟩) (fun k => k ≤ b.length) (fun k => b.length - k) 0 (Nat.zero_le _) ?_ ?_
      · refine Le.sub (by rfl) ?_
        simp only [AW, Nat.reduceBEq, beq_self_eq_true, Nat.reduceLT, Nat.reduceSub, Nat.reduceAdd, Nat.reduceLeDiff, Nat.reduceMul, Nat.reduceEqDiff, Int.reduceToNat, Int.reduceSub, Int.reduceLT, Int.reduceLE, Int.reduceNeg, Int.reduceAdd, reduceCtorEq, hX]; simp
      rintro k hk ihk
      have hil := mulIn_length b (a.getD i 0) i (mulOut a b (a.length + b.length - 1) i) k
      (repeat (first | refine Run.seq ?_ | refine Run.skip ?_ | refine Run.label ?_ | refine Run.block ?_ | refine Run.unblock ?_)); refine Run.regionW hC (fun K hK => ?_); simp only [AW, Nat.reduceBEq, beq_self_eq_true, Nat.reduceLT, Nat.reduceSub, Nat.reduceAdd, Nat.reduceLeDiff, Nat.reduceMul, Nat.reduceEqDiff, Int.reduceToNat, Int.reduceSub, Int.reduceLT, Int.reduceLE, Int.reduceNeg, Int.reduceAdd, reduceCtorEq, hX]; (repeat (with_reducible refine And.intro ?_ ?_); focus (first | omega | (intros; simp_all; done) | (intro h; simp only [Bool.and_eq_true, Bool.or_eq_true, decide_eq_true_eq, Bool.not_eq_true', beq_eq_false_iff_ne, beq_iff_eq, bne_iff_ne, ne_eq, decide_eq_false_iff_not] at h; omega) | (intros; simp_all; omega))); refine hK _ ?_; clear hK K; (repeat (first | refine Run.seq ?_ | refine Run.skip ?_ | refine Run.label ?_ | refine Run.block ?_ | refine Run.unblock ?_))
      (repeat (first | refine Run.seq ?_ | refine Run.skip ?_ | refine Run.label ?_ | refine Run.block ?_ | refine Run.unblock ?_)); refine Run.condW (by simp only [AW, Nat.reduceBEq, beq_self_eq_true, Nat.reduceLT, Nat.reduceSub, Nat.reduceAdd, Nat.reduceLeDiff, Nat.reduceMul, Nat.reduceEqDiff, Int.reduceToNat, Int.reduceSub, Int.reduceLT, Int.reduceLE, Int.reduceNeg, Int.reduceAdd, reduceCtorEq, hX]; rfl) (by simp only [AW, Nat.reduceBEq, beq_self_eq_true, Nat.reduceLT, Nat.reduceSub, Nat.reduceAdd, Nat.reduceLeDiff, Nat.reduceMul, Nat.reduceEqDiff, Int.reduceToNat, Int.reduceSub, Int.reduceLT, Int.reduceLE, Int.reduceNeg, Int.reduceAdd, reduceCtorEq, hX]) ?_ ?_
      · intro hc3
        have hc3 : k < b.length := by simpa using hc3
        (repeat (first | refine Run.seq ?_ | refine Run.skip ?_ | refine Run.label ?_ | refine Run.block ?_ | refine Run.unblock ?_)); refine Run.regionD hC true [0,1,2,3,4,5,6,7,8,9,10,11,12,13,14,15,16,17,18,19,20,21] (by kernel_rfl) (fun K hK => ?_); simp (disch := omega) only [wrap_id, AW, Nat.reduceBEq, beq_self_eq_true, Nat.reduceLT, Nat.reduceSub, Nat.reduceAdd, Nat.reduceLeDiff, Nat.reduceMul, Nat.reduceEqDiff, Int.reduceToNat, Int.reduceSub, Int.reduceLT, Int.reduceLE, Int.reduceNeg, Int.reduceAdd, reduceCtorEq, hX]; (repeat (with_reducible refine And.intro ?_ ?_); focus (first | omega | (intros; simp_all; done) | (intro h; simp only [Bool.and_eq_true, Bool.or_eq_true, decide_eq_true_eq, Bool.not_eq_true', beq_eq_false_iff_ne, beq_iff_eq, bne_iff_ne, ne_eq, decide_eq_false_iff_not] at h; omega) | (intros; simp_all; omega))); (repeat (with_reducible refine And.intro ?_ ?_); focus (first | omega | (intros; simp_all; done) | (intro h; simp only [Bool.and_eq_true, Bool.or_eq_true, decide_eq_true_eq, Bool.not_eq_true', beq_eq_false_iff_ne, beq_iff_eq, bne_iff_ne, ne_eq, decide_eq_false_iff_not] at h; omega) | (intros; simp_all; omega))); refine hK _ ?_; clear hK K; (repeat (first | refine Run.seq ?_ | refine Run.skip ?_ | refine Run.label ?_ | refine Run.block ?_ | refine Run.unblock ?_))
        (repeat (first | refine Run.seq ?_ | refine Run.skip ?_ | refine Run.label ?_ | refine Run.block ?_ | refine Run.unblock ?_)); refine Run.regionW hC (fun K hK => ?_); simp (disch := omega) only [wrap_id, AW, Nat.reduceBEq, beq_self_eq_true, Nat.reduceLT, Nat.reduceSub, Nat.reduceAdd, Nat.reduceLeDiff, Nat.reduceMul, Nat.reduceEqDiff, Int.reduceToNat, Int.reduceSub, Int.reduceLT, Int.reduceLE, Int.reduceNeg, Int.reduceAdd, reduceCtorEq, hX]; (repeat (with_reducible refine And.intro ?_ ?_); focus (first | omega | (intros; simp_all; done) | (intro h; simp only [Bool.and_eq_true, Bool.or_eq_true, decide_eq_true_eq, Bool.not_eq_true', beq_eq_false_iff_ne, beq_iff_eq, bne_iff_ne, ne_eq, decide_eq_false_iff_not] at h; omega) | (intros; simp_all; omega))); refine hK _ ?_; clear hK K; (repeat (first | refine Run.seq ?_ | refine Run.skip ?_ | refine Run.label ?_ | refine Run.block ?_ | refine Run.unblock ?_))
        refine Run.le ?_ (ihk (k + 1) hc3 (by omega))
        refine Le.sub ?_ ?_
        · have e : ((i : Int) + (k : Int)).toNat = i + k := by omega
          simp [mulIn, e]
        · simp only [AW, Nat.reduceBEq, beq_self_eq_true, Nat.reduceLT, Nat.reduceSub, Nat.reduceAdd, Nat.reduceLeDiff, Nat.reduceMul, Nat.reduceEqDiff, Int.reduceToNat, Int.reduceSub, Int.reduceLT, Int.reduceLE, Int.reduceNeg, Int.reduceAdd, reduceCtorEq]; simp
      · intro hc3
        have hc3 : k = b.length := by simp at hc3; omega
        subst hc3
        refine Run.exit rfl ?_; (repeat (first | refine Run.seq ?_ | refine Run.skip ?_ | refine Run.label ?_ | refine Run.block ?_ | refine Run.unblock ?_))
        (repeat (first | refine Run.seq ?_ | refine Run.skip ?_ | refine Run.label ?_ | refine Run.block ?_ | refine Run.unblock ?_)); refine Run.regionW hC (fun K hK => ?_); simp (disch := omega) only [wrap_id, AW, Nat.reduceBEq, beq_self_eq_true, Nat.reduceLT, Nat.reduceSub, Nat.reduceAdd, Nat.reduceLeDiff, Nat.reduceMul, Nat.reduceEqDiff, Int.reduceToNat, Int.reduceSub, Int.reduceLT, Int.reduceLE, Int.reduceNeg, Int.reduceAdd, reduceCtorEq, hX]; (repeat (with_reducible refine And.intro ?_ ?_); focus (first | omega | (intros; simp_all; done) | (intro h; simp only [Bool.and_eq_true, Bool.or_eq_true, decide_eq_true_eq, Bool.not_eq_true', beq_eq_false_iff_ne, beq_iff_eq, bne_iff_ne, ne_eq, decide_eq_false_iff_not] at h; omega) | (intros; simp_all; omega))); refine hK _ ?_; clear hK K; (repeat (first | refine Run.seq ?_ | refine Run.skip ?_ | refine Run.label ?_ | refine Run.block ?_ | refine Run.unblock ?_))
        refine Run.le ?_ (ih (i + 1) hc2 (by omega))
        refine Le.sub (by rfl) ?_
        simp only [AW, Nat.reduceBEq, beq_self_eq_true, Nat.reduceLT, Nat.reduceSub, Nat.reduceAdd, Nat.reduceLeDiff, Nat.reduceMul, Nat.reduceEqDiff, Int.reduceToNat, Int.reduceSub, Int.reduceLT, Int.reduceLE, Int.reduceNeg, Int.reduceAdd, reduceCtorEq]; simp
    · intro hc2
      have hc2 : i = a.length := by simp at hc2; omega
      subst hc2
      refine Run.exit rfl ?_; (repeat (first | refine Run.seq ?_ | refine Run.skip ?_ | refine Run.label ?_ | refine Run.block ?_ | refine Run.unblock ?_))
      (repeat (first | refine Run.seq ?_ | refine Run.skip ?_ | refine Run.label ?_ | refine Run.block ?_ | refine Run.unblock ?_)); refine Run.regionW hC (fun K hK => ?_); simp only [AW, Nat.reduceBEq, beq_self_eq_true, Nat.reduceLT, Nat.reduceSub, Nat.reduceAdd, Nat.reduceLeDiff, Nat.reduceMul, Nat.reduceEqDiff, Int.reduceToNat, Int.reduceSub, Int.reduceLT, Int.reduceLE, Int.reduceNeg, Int.reduceAdd, reduceCtorEq, hX]; (repeat (with_reducible refine And.intro ?_ ?_); focus (first | omega | (intros; simp_all; done) | (intro h; simp only [Bool.and_eq_true, Bool.or_eq_true, decide_eq_true_eq, Bool.not_eq_true', beq_eq_false_iff_ne, beq_iff_eq, bne_iff_ne, ne_eq, decide_eq_false_iff_not] at h; omega) | (intros; simp_all; omega)))
      refine FunA.callW hP hT (c_spec_TrimPoly (mulOut a b (a.length + b.length - 1) a.length) (by omega)) (by simp only [AW, Nat.reduceBEq, beq_self_eq_true, Nat.reduceLT, Nat.reduceSub, Nat.reduceAdd, Nat.reduceLeDiff, Nat.reduceMul, Nat.reduceEqDiff, Int.reduceToNat, Int.reduceSub, Int.reduceLT, Int.reduceLE, Int.reduceNeg, Int.reduceAdd, reduceCtorEq]) ?_
      rintro rs o ⟨rfl, rfl⟩
      simp only [AW, Nat.reduceBEq, beq_self_eq_true, Nat.reduceLT, Nat.reduceSub, Nat.reduceAdd, Nat.reduceLeDiff, Nat.reduceMul, Nat.reduceEqDiff, Int.reduceToNat, Int.reduceSub, Int.reduceLT, Int.reduceLE, Int.reduceNeg, Int.reduceAdd, reduceCtorEq, hX]
      (repeat (with_reducible refine And.intro ?_ ?_); focus (first | omega | (intros; simp_all; done) | (intro h; simp only [Bool.and_eq_true, Bool.or_eq_true, decide_eq_true_eq, Bool.not_eq_true', beq_eq_false_iff_ne, beq_iff_eq, bne_iff_ne, ne_eq, decide_eq_false_iff_not] at h; omega) | (intros; simp_all; omega))); refine hK _ ?_; clear hK K; (repeat (first | refine Run.seq ?_ | refine Run.skip ?_ | refine Run.label ?_ | refine Run.block ?_ | refine Run.unblock ?_))
      refine Run.le (Le.re (obs' := [.arr .int (trim (mulOut a b (a.length + b.length - 1) a.length)) 1 true]) hpin [1] [(4, true, .own 0 1)] rfl (by simp [leOs, leO_arr, oAt]) (by refine ⟨⟨_, rfl, ?_⟩, trivial⟩; simp [leAV, oAt, genO])) ?_
      simp only [frV_cons, frV_nil]
      refine Run.retW [4] (by decide) (by rw [hfn]; rfl) (by simp only [AW, Nat.reduceBEq, beq_self_eq_true, Nat.reduceLT, Nat.reduceSub, Nat.reduceAdd, Nat.reduceLeDiff, Nat.reduceMul, Nat.reduceEqDiff, Int.reduceToNat, Int.reduceSub, Int.reduceLT, Int.reduceLE, Int.reduceNeg, Int.reduceAdd, reduceCtorEq, hX]; rfl) (by simp only [AW, Nat.reduceBEq, beq_self_eq_true, Nat.reduceLT, Nat.reduceSub, Nat.reduceAdd, Nat.reduceLeDiff, Nat.reduceMul, Nat.reduceEqDiff, Int.reduceToNat, Int.reduceSub, Int.reduceLT, Int.reduceLE, Int.reduceNeg, Int.reduceAdd, reduceCtorEq, hX]) (hfin _ _ rfl rfl ?_)
      simp [mulP, hm]

theorem c_impl_MulPoly (a b : List Int) (ha : a.length ≤ 1048576) (hb : b.length ≤ 1048576) : FunA B 33 [.sl false .int a, .sl false .int b] (fun rs o => rs = [.own 0 1] ∧ o = [.arr .int (mulP a b) 1 true]) := by
  refine FunA.walk B_ok (fn := Try.f33) (fun vs w => Try.call33 vs w) Try.func33 rfl (by rw [Try.ntmps33]; simp) (fun C hC hP hT hΓ hbt hfn hpin hfin => ?_); have hX := BX; rw [← hΓ, ← hbt] at hX; rw [Try.ntmps33]; simp only [AW, Nat.reduceBEq, beq_self_eq_true, Nat.reduceLT, Nat.reduceSub, Nat.reduceAdd, Nat.reduceLeDiff, Nat.reduceMul, Nat.reduceEqDiff, Int.reduceToNat, Int.reduceSub, Int.reduceLT, Int.reduceLE, Int.reduceNeg, Int.reduceAdd, reduceCtorEq, hX]
  (repeat (first | refine Run.seq ?_ | refine Run.skip ?_ | refine Run.label ?_ | refine Run.block ?_ | refine Run.unblock ?_)); refine Run.regionW hC (fun K hK => ?_); simp only [AW, Nat.reduceBEq, beq_self_eq_true, Nat.reduceLT, Nat.reduceSub, Nat.reduceAdd, Nat.reduceLeDiff, Nat.reduceMul, Nat.reduceEqDiff, Int.reduceToNat, Int.reduceSub, Int.reduceLT, Int.reduceLE, Int.reduceNeg, Int.reduceAdd, reduceCtorEq, hX]; (repeat (with_reducible refine And.intro ?_ ?_); focus (first | omega | (intros; simp_all; done) | (intro h; simp only [Bool.and_eq_true, Bool.or_eq_true, decide_eq_true_eq, Bool.not_eq_true', beq_eq_false_iff_ne, beq_iff_eq, bne_iff_ne, ne_eq, decide_eq_false_iff_not] at h; omega) | (intros; simp_all; omega))); refine hK _ ?_; clear hK K; (repeat (first | refine Run.seq ?_ | refine Run.skip ?_ | refine Run.label ?_ | refine Run.block ?_ | refine Run.unblock ?_))
  (repeat (first | refine Run.seq ?_ | refine Run.skip ?_ | refine Run.label ?_ | refine Run.block ?_ | refine Run.unblock ?_)); refine Run.regionW hC (fun K hK => ?_); simp (disch := omega) only [wrap_id, AW, Nat.reduceBEq, beq_self_eq_true, Nat.reduceLT, Nat.reduceSub, Nat.reduceAdd, Nat.reduceLeDiff, Nat.reduceMul, Nat.reduceEqDiff, Int.reduceToNat, Int.reduceSub, Int.reduceLT, Int.reduceLE, Int.reduceNeg, Int.reduceAdd, reduceCtorEq, hX]; (repeat (with_reducible refine And.intro ?_ ?_); focus (first | omega | (intros; simp_all; done) | (intro h; simp only [Bool.and_eq_true, Bool.or_eq_true, decide_eq_true_eq, Bool.not_eq_true', beq_eq_false_iff_ne, beq_iff_eq, bne_iff_ne, ne_eq, decide_eq_false_iff_not] at h; omega) | (intros; simp_all; omega))); refine hK _ ?_; clear hK K; (repeat (first | refine Run.seq ?_ | refine Run.skip ?_ | refine Run.label ?_ | refine Run.block ?_ | refine Run.unblock ?_))
  refine Run.keep [0, 1, 4, 25] ?_; simp only [AK, Nat.reduceBEq]
  (repeat (first | refine Run.seq ?_ | refine Run.skip ?_ | refine Run.label ?_ | refine Run.block ?_ | refine Run.unblock ?_)); refine Run.condW (by simp only [AW, Nat.reduceBEq, beq_self_eq_true, Nat.reduceLT, Nat.reduceSub, Nat.reduceAdd, Nat.reduceLeDiff, Nat.reduceMul, Nat.reduceEqDiff, Int.reduceToNat, Int.reduceSub, Int.reduceLT, Int.reduceLE, Int.reduceNeg, Int.reduceAdd, reduceCtorEq, hX]; rfl) (by simp only [AW, Nat.reduceBEq, beq_self_eq_true, Nat.reduceLT, Nat.reduceSub, Nat.reduceAdd, Nat.reduceLeDiff, Nat.reduceMul, Nat.reduceEqDiff, Int.reduceToNat, Int.reduceSub, Int.reduceLT, Int.reduceLE, Int.reduceNeg, Int.reduceAdd, reduceCtorEq, hX]) ?_ ?_
  · intro hc
    have hm : mulC a b := by
      unfold mulC
      by_cases h1 : a.length = 0
      · exact .inl h1
      · by_cases h2 : b.length = 0
        · exact .inr (.inl h2)
        · have h1' : ((a.length : Int) == 0) = false := by simpa using h1
          have h2' : ((b.length : Int) == 0) = false := by simpa using h2
          rw [h1', h2'] at hc
          by_cases h3 : 62 < (a.length : Int) + b.length
          · omega
          · simp [h3] at hc
    (repeat (first | refine Run.seq ?_ | refine Run.skip ?_ | refine Run.label ?_ | refine Run.block ?_ | refine Run.unblock ?_)); refine Run.regionW hC (fun K hK => ?_); simp only [AW, Nat.reduceBEq, beq_self_eq_true, Nat.reduceLT, Nat.reduceSub, Nat.reduceAdd, Nat.reduceLeDiff, Nat.reduceMul, Nat.reduceEqDiff, Int.reduceToNat, Int.reduceSub, Int.reduceLT, Int.reduceLE, Int.reduceNeg, Int.reduceAdd, reduceCtorEq, hX]; (repeat (with_reducible refine And.intro ?_ ?_); focus (first | omega | (intros; simp_all; done) | (intro h; simp only [Bool.and_eq_true, Bool.or_eq_true, decide_eq_true_eq, Bool.not_eq_true', beq_eq_false_iff_ne, beq_iff_eq, bne_iff_ne, ne_eq, decide_eq_false_iff_not] at h; omega) | (intros; simp_all; omega))); refine hK _ ?_; clear hK K; (repeat (first | refine Run.seq ?_ | refine Run.skip ?_ | refine Run.label ?_ | refine Run.block ?_ | refine Run.unblock ?_))
    refine Run.le (Le.re (obs' := [.arr .int [] 1 true]) hpin [0] [(4, true, .own 0 1)] rfl (by simp [leOs, leO_arr, oAt]) (by refine ⟨⟨_, rfl, ?_⟩, trivial⟩; simp [leAV, oAt, genO])) ?_
    simp only [frV_cons, frV_nil]
    refine Run.retW [4] (by decide) (by rw [hfn]; rfl) (by simp only [AW, Nat.reduceBEq, beq_self_eq_true, Nat.reduceLT, Nat.reduceSub, Nat.reduceAdd, Nat.reduceLeDiff, Nat.reduceMul, Nat.reduceEqDiff, Int.reduceToNat, Int.reduceSub, Int.reduceLT, Int.reduceLE, Int.reduceNeg, Int.reduceAdd, reduceCtorEq, hX]; rfl) (by simp only [AW, Nat.reduceBEq, beq_self_eq_true, Nat.reduceLT, Nat.reduceSub, Nat.reduceAdd, Nat.reduceLeDiff, Nat.reduceMul, Nat.reduceEqDiff, Int.reduceToNat, Int.reduceSub, Int.reduceLT, Int.reduceLE, Int.reduceNeg, Int.reduceAdd, reduceCtorEq, hX]) (hfin _ _ rfl rfl ?_)
    simp [mulP, hm]
  · intro hc
    have hm : ¬ mulC a b := by
      unfold mulC
      intro h
      by_cases h3 : 62 < (a.length : Int) + b.length
      · simp [h3] at hc
      · have h3' : decide (62 < (a.length : Int) + b.length) = false := by simpa using h3
        rw [h3'] at hc
        simp only [cond_false] at hc
        rcases h with h | h | h
        · simp [h] at hc
        · by_cases h1 : a.length = 0
          · simp [h1] at hc
          · have h1' : ((a.length : Int) == 0) = false := by simpa using h1
            rw [h1'] at hc
            simp [h] at hc
        · omega
    have hm' := hm
    unfold mulC at hm'
    have hN : (mulOut a b (a.length + b.length - 1) 0) = List.replicate ((a.length : Int) + b.length - 1).toNat 0 := by
      simp only [mulOut]
      congr 1
      omega
    (repeat (first | refine Run.seq ?_ | refine Run.skip ?_ | refine Run.label ?_ | refine Run.block ?_ | refine Run.unblock ?_)); refine Run.regionW hC (fun K hK => ?_); simp (disch := omega) only [wrap_id, AW, Nat.reduceBEq, beq_self_eq_true, Nat.reduceLT, Nat.reduceSub, Nat.reduceAdd, Nat.reduceLeDiff, Nat.reduceMul, Nat.reduceEqDiff, Int.reduceToNat, Int.reduceSub, Int.reduceLT, Int.reduceLE, Int.reduceNeg, Int.reduceAdd, reduceCtorEq, hX]; (repeat (with_reducible refine And.intro ?_ ?_); focus (first | omega | (intros; simp_all; done) | (intro h; simp only [Bool.and_eq_true, Bool.or_eq_true, decide_eq_true_eq, Bool.not_eq_true', beq_eq_false_iff_ne, beq_iff_eq, bne_iff_ne, ne_eq, decide_eq_false_iff_not] at h; omega) | (intros; simp_all; omega))); refine hK _ ?_; clear hK K; (repeat (first | refine Run.seq ?_ | refine Run.skip ?_ | refine Run.label ?_ | refine Run.block ?_ | refine Run.unblock ?_))
    (repeat (first | refine Run.seq ?_ | refine Run.skip ?_ | refine Run.label ?_ | refine Run.block ?_ | refine Run.unblock ?_)); refine Run.regionW hC (fun K hK => ?_); simp only [AW, Nat.reduceBEq, beq_self_eq_true, Nat.reduceLT, Nat.reduceSub, Nat.reduceAdd, Nat.reduceLeDiff, Nat.reduceMul, Nat.reduceEqDiff, Int.reduceToNat, Int.reduceSub, Int.reduceLT, Int.reduceLE, Int.reduceNeg, Int.reduceAdd, reduceCtorEq, hX]; (repeat (with_reducible refine And.intro ?_ ?_); focus (first | omega | (intros; simp_all; done) | (intro h; simp only [Bool.and_eq_true, Bool.or_eq_true, decide_eq_true_eq, Bool.not_eq_true', beq_eq_false_iff_ne, beq_iff_eq, bne_iff_ne, ne_eq, decide_eq_false_iff_not] at h; omega) | (intros; simp_all; omega))); refine hK _ ?_; clear hK K; (repeat (first | refine Run.seq ?_ | refine Run.skip ?_ | refine Run.label ?_ | refine Run.block ?_ | refine Run.unblock ?_))
    refine Run.keep [0, 1, 4, 5, 34, 35, 36] ?_; simp only [AK, Nat.reduceBEq]
    refine Run.loopI (X := Nat) (fun i => ⟨63, [(0, true, .v (.sl false .int a)), (1, true, .v (.sl false .int b)), (4, true, .v .nils), (5, true, .v (.own 0 0)), (34, true, .v (.sl false .int a)), (35, true, .v (.int .i64 a.length)), (36, true, .v (.int .i64 i))], [.arr .int (mulOut a b (a.length + b.length - 1) i) 0 true]⟩) (fun i => i ≤ a.length) (fun i => a.length - i) 0 (Nat.zero_le _) ?_ ?_
    · refine Le.sub (by rw [hN]) ?_
      simp only [AW, Nat.reduceBEq, beq_self_eq_true, Nat.reduceLT, Nat.reduceSub, Nat.reduceAdd, Nat.reduceLeDiff, Nat.reduceMul, Nat.reduceEqDiff, Int.reduceToNat, Int.reduceSub, Int.reduceLT, Int.reduceLE, Int.reduceNeg, Int.reduceAdd, reduceCtorEq, hX]; simp
    rintro i hi ih
    have hol := mulOut_length a b (a.length + b.length - 1) i
    (repeat (first | refine Run.seq ?_ | refine Run.skip ?_ | refine Run.label ?_ | refine Run.block ?_ | refine Run.unblock ?_)); refine Run.regionW hC (fun K hK => ?_); simp only [AW, Nat.reduceBEq, beq_self_eq_true, Nat.reduceLT, Nat.reduceSub, Nat.reduceAdd, Nat.reduceLeDiff, Nat.reduceMul, Nat.reduceEqDiff, Int.reduceToNat, Int.reduceSub, Int.reduceLT, Int.reduceLE, Int.reduceNeg, Int.reduceAdd, reduceCtorEq, hX]; (repeat (with_reducible refine And.intro ?_ ?_); focus (first | omega | (intros; simp_all; done) | (intro h; simp only [Bool.and_eq_true, Bool.or_eq_true, decide_eq_true_eq, Bool.not_eq_true', beq_eq_false_iff_ne, beq_iff_eq, bne_iff_ne, ne_eq, decide_eq_false_iff_not] at h; omega) | (intros; simp_all; omega))); refine hK _ ?_; clear hK K; (repeat (first | refine Run.seq ?_ | refine Run.skip ?_ | refine Run.label ?_ | refine Run.block ?_ | refine Run.unblock ?_))
    (repeat (first | refine Run.seq ?_ | refine Run.skip ?_ | refine Run.label ?_ | refine Run.block ?_ | refine Run.unblock ?_)); refine Run.condW (by simp only [AW, Nat.reduceBEq, beq_self_eq_true, Nat.reduceLT, Nat.reduceSub, Nat.reduceAdd, Nat.reduceLeDiff, Nat.reduceMul, Nat.reduceEqDiff, Int.reduceToNat, Int.reduceSub, Int.reduceLT, Int.reduceLE, Int.reduceNeg, Int.reduceAdd, reduceCtorEq, hX]; rfl) (by simp only [AW, Nat.reduceBEq, beq_self_eq_true, Nat.reduceLT, Nat.reduceSub, Nat.reduceAdd, Nat.reduceLeDiff, Nat.reduceMul, Nat.reduceEqDiff, Int.reduceToNat, Int.reduceSub, Int.reduceLT, Int.reduceLE, Int.reduceNeg, Int.reduceAdd, reduceCtorEq, hX]) ?_ ?_
    · intro hc2
      have hc2 : i < a.length := by simpa using hc2
      (repeat (first | refine Run.seq ?_ | refine Run.skip ?_ | refine Run.label ?_ | refine Run.block ?_ | refine Run.unblock ?_)); refine Run.regionW hC (fun K hK => ?_); simp only [AW, Nat.reduceBEq, beq_self_eq_true, Nat.reduceLT, Nat.reduceSub, Nat.reduceAdd, Nat.reduceLeDiff, Nat.reduceMul, Nat.reduceEqDiff, Int.reduceToNat, Int.reduceSub, Int.reduceLT, Int.reduceLE, Int.reduceNeg, Int.reduceAdd, reduceCtorEq, hX]; (repeat (with_reducible refine And.intro ?_ ?_); focus (first | omega | (intros; simp_all; done) | (intro h; simp only [Bool.and_eq_true, Bool.or_eq_true, decide_eq_true_eq, Bool.not_eq_true', beq_eq_false_iff_ne, beq_iff_eq, bne_iff_ne, ne_eq, decide_eq_false_iff_not] at h; omega) | (intros; simp_all; omega))); refine hK _ ?_; clear hK K; (repeat (first | refine Run.seq ?_ | refine Run.skip ?_ | refine Run.label ?_ | refine Run.block ?_ | refine Run.unblock ?_))
      (repeat (first | refine Run.seq ?_ | refine Run.skip ?_ | refine Run.label ?_ | refine Run.block ?_ | refine Run.unblock ?_)); refine Run.regionW hC (fun K hK => ?_); simp only [AW, Nat.reduceBEq, beq_self_eq_true, Nat.reduceLT, Nat.reduceSub, Nat.reduceAdd, Nat.reduceLeDiff, Nat.reduceMul, Nat.reduceEqDiff, Int.reduceToNat, Int.reduceSub, Int.reduceLT, Int.reduceLE, Int.reduceNeg, Int.reduceAdd, reduceCtorEq, hX]; (repeat (with_reducible refine And.intro ?_ ?_); focus (first | omega | (intros; simp_all; done) | (intro h; simp only [Bool.and_eq_true, Bool.or_eq_true, decide_eq_true_eq, Bool.not_eq_true', beq_eq_false_iff_ne, beq_iff_eq, bne_iff_ne, ne_eq, decide_eq_false_iff_not] at h; omega) | (intros; simp_all; omega))); refine hK _ ?_; clear hK K; (repeat (first | refine Run.seq ?_ | refine Run.skip ?_ | refine Run.label ?_ | refine Run.block ?_ | refine Run.unblock ?_))
      refine Run.loopI (X := Nat) (fun k => ⟨63, [(0, true, .v (.sl false .int a)), (1, true, .v (.sl false .int b)), (4, true, .v .nils), (5, true, .v (.own 0 0)), (34, true, .v (.sl false .int a)), (35, true, .v (.int .i64 a.length)), (36, true, .v (.int .i64 i)), (6, true, .v (.int .i64 i)), (7, true, .v (.int .i64 (a.getD i 0))), (41, true, .v (.sl false .int b)), (42, true, .v (.int .i64 b.length)), (43, true, .v (.int .i64 k))], [.arr .int (mulIn b (a.getD i 0) i (mulOut a b (a.length + b.length - 1) i) k) 0 true]⟩) (fun k => k ≤ b.length) (fun k => b.length - k) 0 (Nat.zero_le _) ?_ ?_
      · refine Le.sub (by rfl) ?_
        simp only [AW, Nat.reduceBEq, beq_self_eq_true, Nat.reduceLT, Nat.reduceSub, Nat.reduceAdd, Nat.reduceLeDiff, Nat.reduceMul, Nat.reduceEqDiff, Int.reduceToNat, Int.reduceSub, Int.reduceLT, Int.reduceLE, Int.reduceNeg, Int.reduceAdd, reduceCtorEq, hX]; simp
      rintro k hk ihk
      have hil := mulIn_length b (a.getD i 0) i (mulOut a b (a.length + b.length - 1) i) k
      (repeat (first | refine Run.seq ?_ | refine Run.skip ?_ | refine Run.label ?_ | refine Run.block ?_ | refine Run.unblock ?_)); refine Run.regionW hC (fun K hK => ?_); simp only [AW, Nat.reduceBEq, beq_self_eq_true, Nat.reduceLT, Nat.reduceSub, Nat.reduceAdd, Nat.reduceLeDiff, Nat.reduceMul, Nat.reduceEqDiff, Int.reduceToNat, Int.reduceSub, Int.reduceLT, Int.reduceLE, Int.reduceNeg, Int.reduceAdd, reduceCtorEq, hX]; (repeat (with_reducible refine And.intro ?_ ?_); focus (first | omega | (intros; simp_all; done) | (intro h; simp only [Bool.and_eq_true, Bool.or_eq_true, decide_eq_true_eq, Bool.not_eq_true', beq_eq_false_iff_ne, beq_iff_eq, bne_iff_ne, ne_eq, decide_eq_false_iff_not] at h; omega) | (intros; simp_all; omega))); refine hK _ ?_; clear hK K; (repeat (first | refine Run.seq ?_ | refine Run.skip ?_ | refine Run.label ?_ | refine Run.block ?_ | refine Run.unblock ?_))
      (repeat (first | refine Run.seq ?_ | refine Run.skip ?_ | refine Run.label ?_ | refine Run.block ?_ | refine Run.unblock ?_)); refine Run.condW (by simp only [AW, Nat.reduceBEq, beq_self_eq_true, Nat.reduceLT, Nat.reduceSub, Nat.reduceAdd, Nat.reduceLeDiff, Nat.reduceMul, Nat.reduceEqDiff, Int.reduceToNat, Int.reduceSub, Int.reduceLT, Int.reduceLE, Int.reduceNeg, Int.reduceAdd, reduceCtorEq, hX]; rfl) (by simp only [AW, Nat.reduceBEq, beq_self_eq_true, Nat.reduceLT, Nat.reduceSub, Nat.reduceAdd, Nat.reduceLeDiff, Nat.reduceMul, Nat.reduceEqDiff, Int.reduceToNat, Int.reduceSub, Int.reduceLT, Int.reduceLE, Int.reduceNeg, Int.reduceAdd, reduceCtorEq, hX]) ?_ ?_
      · intro hc3
        have hc3 : k < b.length := by simpa using hc3
        (repeat (first | refine Run.seq ?_ | refine Run.skip ?_ | refine Run.label ?_ | refine Run.block ?_ | refine Run.unblock ?_)); refine Run.regionW hC (fun K hK => ?_); simp only [AW, Nat.reduceBEq, beq_self_eq_true, Nat.reduceLT, Nat.reduceSub, Nat.reduceAdd, Nat.reduceLeDiff, Nat.reduceMul, Nat.reduceEqDiff, Int.reduceToNat, Int.reduceSub, Int.reduceLT, Int.reduceLE, Int.reduceNeg, Int.reduceAdd, reduceCtorEq, hX]; (repeat (with_reducible refine And.intro ?_ ?_); focus (first | omega | (intros; simp_all; done) | (intro h; simp only [Bool.and_eq_true, Bool.or_eq_true, decide_eq_true_eq, Bool.not_eq_true', beq_eq_false_iff_ne, beq_iff_eq, bne_iff_ne, ne_eq, decide_eq_false_iff_not] at h; omega) | (intros; simp_all; omega))); refine hK _ ?_; clear hK K; (repeat (first | refine Run.seq ?_ | refine Run.skip ?_ | refine Run.label ?_ | refine Run.block ?_ | refine Run.unblock ?_))
        (repeat (first | refine Run.seq ?_ | refine Run.skip ?_ | refine Run.label ?_ | refine Run.block ?_ | refine Run.unblock ?_)); refine Run.regionW hC (fun K hK => ?_); simp (disch := omega) only [wrap_id, AW, Nat.reduceBEq, beq_self_eq_true, Nat.reduceLT, Nat.reduceSub, Nat.reduceAdd, Nat.reduceLeDiff, Nat.reduceMul, Nat.reduceEqDiff, Int.reduceToNat, Int.reduceSub, Int.reduceLT, Int.reduceLE, Int.reduceNeg, Int.reduceAdd, reduceCtorEq, hX]; (repeat (with_reducible refine And.intro ?_ ?_); focus (first | omega | (intros; simp_all; done) | (intro h; simp only [Bool.and_eq_true, Bool.or_eq_true, decide_eq_true_eq, Bool.not_eq_true', beq_eq_false_iff_ne, beq_iff_eq, bne_iff_ne, ne_eq, decide_eq_false_iff_not] at h; omega) | (intros; simp_all; omega))); refine hK _ ?_; clear hK K; (repeat (first | refine Run.seq ?_ | refine Run.skip ?_ | refine Run.label ?_ | refine Run.block ?_ | refine Run.unblock ?_))
        (repeat (first | refine Run.seq ?_ | refine Run.skip ?_ | refine Run.label ?_ | refine Run.block ?_ | refine Run.unblock ?_)); refine Run.regionW hC (fun K hK => ?_); simp (disch := omega) only [wrap_id, AW, Nat.reduceBEq, beq_self_eq_true, Nat.reduceLT, Nat.reduceSub, Nat.reduceAdd, Nat.reduceLeDiff, Nat.reduceMul, Nat.reduceEqDiff, Int.reduceToNat, Int.reduceSub, Int.reduceLT, Int.reduceLE, Int.reduceNeg, Int.reduceAdd, reduceCtorEq, hX]; (repeat (with_reducible refine And.intro ?_ ?_); focus (first | omega | (intros; simp_all; done) | (intro h; simp only [Bool.and_eq_true, Bool.or_eq_true, decide_eq_true_eq, Bool.not_eq_true', beq_eq_false_iff_ne, beq_iff_eq, bne_iff_ne, ne_eq, decide_eq_false_iff_not] at h; omega) | (intros; simp_all; omega))); refine hK _ ?_; clear hK K; (repeat (first | refine Run.seq ?_ | refine Run.skip ?_ | refine Run.label ?_ | refine Run.block ?_ | refine Run.unblock ?_))
        refine Run.le ?_ (ihk (k + 1) hc3 (by omega))
        refine Le.sub ?_ ?_
        · have e : ((i : Int) + (k : Int)).toNat = i + k := by omega
          simp [mulIn, e]
        · simp only [AW, Nat.reduceBEq, beq_self_eq_true, Nat.reduceLT, Nat.reduceSub, Nat.reduceAdd, Nat.reduceLeDiff, Nat.reduceMul, Nat.reduceEqDiff, Int.reduceToNat, Int.reduceSub, Int.reduceLT, Int.reduceLE, Int.reduceNeg, Int.reduceAdd, reduceCtorEq]; simp
      · intro hc3
        have hc3 : k = b.length := by simp at hc3; omega
        subst hc3
        refine Run.exit rfl ?_; (repeat (first | refine Run.seq ?_ | refine Run.skip ?_ | refine Run.label ?_ | refine Run.block ?_ | refine Run.unblock ?_))
        (repeat (first | refine Run.seq ?_ | refine Run.skip ?_ | refine Run.label ?_ | refine Run.block ?_ | refine Run.unblock ?_)); refine Run.regionW hC (fun K hK => ?_); simp (disch := omega) only [wrap_id, AW, Nat.reduceBEq, beq_self_eq_true, Nat.reduceLT, Nat.reduceSub, Nat.reduceAdd, Nat.reduceLeDiff, Nat.reduceMul, Nat.reduceEqDiff, Int.reduceToNat, Int.reduceSub, Int.reduceLT, Int.reduceLE, Int.reduceNeg, Int.reduceAdd, reduceCtorEq, hX]; (repeat (with_reducible refine And.intro ?_ ?_); focus (first | omega | (intros; simp_all; done) | (intro h; simp only [Bool.and_eq_true, Bool.or_eq_true, decide_eq_true_eq, Bool.not_eq_true', beq_eq_false_iff_ne, beq_iff_eq, bne_iff_ne, ne_eq, decide_eq_false_iff_not] at h; omega) | (intros; simp_all; omega))); refine hK _ ?_; clear hK K; (repeat (first | refine Run.seq ?_ | refine Run.skip ?_ | refine Run.label ?_ | refine Run.block ?_ | refine Run.unblock ?_))
        refine Run.le ?_ (ih (i + 1) hc2 (by omega))
        refine Le.sub (by rfl) ?_
        simp only [AW, Nat.reduceBEq, beq_self_eq_true, Nat.reduceLT, Nat.reduceSub, Nat.reduceAdd, Nat.reduceLeDiff, Nat.reduceMul, Nat.reduceEqDiff, Int.reduceToNat, Int.reduceSub, Int.reduceLT, Int.reduceLE, Int.reduceNeg, Int.reduceAdd, reduceCtorEq]; simp
    · intro hc2
      have hc2 : i = a.length := by simp at hc2; omega
      subst hc2
      refine Run.exit rfl ?_; (repeat (first | refine Run.seq ?_ | refine Run.skip ?_ | refine Run.label ?_ | refine Run.block ?_ | refine Run.unblock ?_))
      (repeat (first | refine Run.seq ?_ | refine Run.skip ?_ | refine Run.label ?_ | refine Run.block ?_ | refine Run.unblock ?_)); refine Run.regionW hC (fun K hK => ?_); simp only [AW, Nat.reduceBEq, beq_self_eq_true, Nat.reduceLT, Nat.reduceSub, Nat.reduceAdd, Nat.reduceLeDiff, Nat.reduceMul, Nat.reduceEqDiff, Int.reduceToNat, Int.reduceSub, Int.reduceLT, Int.reduceLE, Int.reduceNeg, Int.reduceAdd, reduceCtorEq, hX]; (repeat (with_reducible refine And.intro ?_ ?_); focus (first | omega | (intros; simp_all; done) | (intro h; simp only [Bool.and_eq_true, Bool.or_eq_true, decide_eq_true_eq, Bool.not_eq_true', beq_eq_false_iff_ne, beq_iff_eq, bne_iff_ne, ne_eq, decide_eq_false_iff_not] at h; omega) | (intros; simp_all; omega)))
      refine FunA.callW hP hT (c_impl_TrimPoly (mulOut a b (a.length + b.length - 1) a.length) (by omega)) (by simp only [AW, Nat.reduceBEq, beq_self_eq_true, Nat.reduceLT, Nat.reduceSub, Nat.reduceAdd, Nat.reduceLeDiff, Nat.reduceMul, Nat.reduceEqDiff, Int.reduceToNat, Int.reduceSub, Int.reduceLT, Int.reduceLE, Int.reduceNeg, Int.reduceAdd, reduceCtorEq]) ?_
      rintro rs o ⟨rfl, rfl⟩
      simp only [AW, Nat.reduceBEq, beq_self_eq_true, Nat.reduceLT, Nat.reduceSub, Nat.reduceAdd, Nat.reduceLeDiff, Nat.reduceMul, Nat.reduceEqDiff, Int.reduceToNat, Int.reduceSub, Int.reduceLT, Int.reduceLE, Int.reduceNeg, Int.reduceAdd, reduceCtorEq, hX]
      (repeat (with_reducible refine And.intro ?_ ?_); focus (first | omega | (intros; simp_all; done) | (intro h; simp only [Bool.and_eq_true, Bool.or_eq_true, decide_eq_true_eq, Bool.not_eq_true', beq_eq_false_iff_ne, beq_iff_eq, bne_iff_ne, ne_eq, decide_eq_false_iff_not] at h; omega) | (intros; simp_all; omega))); refine hK _ ?_; clear hK K; (repeat (first | refine Run.seq ?_ | refine Run.skip ?_ | refine Run.label ?_ | refine Run.block ?_ | refine Run.unblock ?_))
      refine Run.le (Le.re (obs' := [.arr .int (trim (mulOut a b (a.length + b.length - 1) a.length)) 1 true]) hpin [1] [(4, true, .own 0 1)] rfl (by simp [leOs, leO_arr, oAt]) (by refine ⟨⟨_, rfl, ?_⟩, trivial⟩; simp [leAV, oAt, genO])) ?_
      simp only [frV_cons, frV_nil]
      refine Run.retW [4] (by decide) (by rw [hfn]; rfl) (by simp only [AW, Nat.reduceBEq, beq_self_eq_true, Nat.reduceLT, Nat.reduceSub, Nat.reduceAdd, Nat.reduceLeDiff, Nat.reduceMul, Nat.reduceEqDiff, Int.reduceToNat, Int.reduceSub, Int.reduceLT, Int.reduceLE, Int.reduceNeg, Int.reduceAdd, reduceCtorEq, hX]; rfl) (by simp only [AW, Nat.reduceBEq, beq_self_eq_true, Nat.reduceLT, Nat.reduceSub, Nat.reduceAdd, Nat.reduceLeDiff, Nat.reduceMul, Nat.reduceEqDiff, Int.reduceToNat, Int.reduceSub, Int.reduceLT, Int.reduceLE, Int.reduceNeg, Int.reduceAdd, reduceCtorEq, hX]) (hfin _ _ rfl rfl ?_)
      simp [mulP, hm]
end Go.Proofs.Ytjmhkklhcllgcaa

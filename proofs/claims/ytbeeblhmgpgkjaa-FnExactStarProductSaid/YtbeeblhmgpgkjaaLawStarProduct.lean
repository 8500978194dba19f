/- The law FnExactStarProduct. -/
import Derived.Test.YtbeeblhmgpgkjaaStarFns2
import Derived.Test.YtbeeblhmgpgkjaaBase3
set_option linter.unusedVariables false
set_option linter.unusedSimpArgs false
namespace Go.Proofs.Ytbeeblhmgpgkjaa
open Go Go.Aw

theorem c_FnExactStarProduct (c : List (List Int)) (a : List Int) (b : List Int) (_ : ∀ r ∈ c, ∀ n ∈ r, (Lit.int .i64 n).wf = true) (_ : ∀ n ∈ a, (Lit.int .i64 n).wf = true) (_ : ∀ n ∈ b, (Lit.int .i64 n).wf = true) : FunA B 9 [.sl false (.row false) c, .sl false .int a, .sl false .int b] (fun rs _ => rs = [.bool true]) := by
  refine FunA.walk B_ok (fn := Try.f9) (fun vs w => Try.call9 vs w) Try.func9 rfl (by rw [Try.ntmps9]; simp) (fun C hC hP hT hΓ hbt hfn hpin hfin => ?_); have hX := BX; rw [← hΓ, ← hbt] at hX; rw [Try.ntmps9]; simp only [AW1, simprocAttr, Int.toNat_natCast, beq_self_eq_true, hX]
  (repeat (first | refine Run.seq ?_ | refine Run.skip ?_ | refine Run.label ?_ | refine Run.block ?_ | refine Run.unblock ?_)); refine Run.regionW hC (fun K hK => ?_); simp only [AW1, simprocAttr, Int.toNat_natCast, beq_self_eq_true, hX]; (repeat (with_reducible refine And.intro ?_ ?_); focus (first | omega | (intros; simp_all; done) | (intro h; simp only [VB] at h; omega) | (intros; simp_all; omega))); refine hK _ ?_; clear hK K; (repeat (first | refine Run.seq ?_ | refine Run.skip ?_ | refine Run.label ?_ | refine Run.block ?_ | refine Run.unblock ?_))
  refine Run.keep [0, 1, 2, 6] ?_; simp only [AK, Nat.reduceBEq]
  (repeat (first | refine Run.seq ?_ | refine Run.skip ?_ | refine Run.label ?_ | refine Run.block ?_ | refine Run.unblock ?_)); refine Run.regionW hC (fun K hK => ?_); simp only [AW1, simprocAttr, Int.toNat_natCast, beq_self_eq_true, hX]; (repeat (with_reducible refine And.intro ?_ ?_); focus (first | omega | (intros; simp_all; done) | (intro h; simp only [VB] at h; omega) | (intros; simp_all; omega))); refine hK _ ?_; clear hK K; (repeat (first | refine Run.seq ?_ | refine Run.skip ?_ | refine Run.label ?_ | refine Run.block ?_ | refine Run.unblock ?_))
  refine Run.keep [0, 1, 2, 6, 22] ?_; simp only [AK, Nat.reduceBEq]
  (repeat (first | refine Run.seq ?_ | refine Run.skip ?_ | refine Run.label ?_ | refine Run.block ?_ | refine Run.unblock ?_)); refine Run.condW (by simp only [AW1, simprocAttr, Int.toNat_natCast, beq_self_eq_true, hX]; rfl) (by simp only [AW1, simprocAttr, Int.toNat_natCast, beq_self_eq_true, hX]) ?_ ?_
  · intro hc
    (repeat (first | refine Run.seq ?_ | refine Run.skip ?_ | refine Run.label ?_ | refine Run.block ?_ | refine Run.unblock ?_)); refine Run.regionW hC (fun K hK => ?_); simp only [AW1, simprocAttr, Int.toNat_natCast, beq_self_eq_true, hX]; (repeat (with_reducible refine And.intro ?_ ?_); focus (first | omega | (intros; simp_all; done) | (intro h; simp only [VB] at h; omega) | (intros; simp_all; omega))); refine hK _ ?_; clear hK K; (repeat (first | refine Run.seq ?_ | refine Run.skip ?_ | refine Run.label ?_ | refine Run.block ?_ | refine Run.unblock ?_))
    refine Run.retW [6] (by decide) (by rw [hfn]; rfl) (by simp only [AW1, simprocAttr, Int.toNat_natCast, beq_self_eq_true, hX]; rfl) (by simp only [AW1, simprocAttr, Int.toNat_natCast, beq_self_eq_true, hX]) (hfin _ _ rfl rfl ?_)
    rfl
  intro hc
  have ha : a.length ≤ 1048576 := by simp at hc; omega
  clear hc
  (repeat (first | refine Run.seq ?_ | refine Run.skip ?_ | refine Run.label ?_ | refine Run.block ?_ | refine Run.unblock ?_)); refine Run.regionW hC (fun K hK => ?_); simp only [AW1, simprocAttr, Int.toNat_natCast, beq_self_eq_true, hX]; (repeat (with_reducible refine And.intro ?_ ?_); focus (first | omega | (intros; simp_all; done) | (intro h; simp only [VB] at h; omega) | (intros; simp_all; omega))); refine hK _ ?_; clear hK K; (repeat (first | refine Run.seq ?_ | refine Run.skip ?_ | refine Run.label ?_ | refine Run.block ?_ | refine Run.unblock ?_))
  refine Run.keep [0, 1, 2, 6, 25] ?_; simp only [AK, Nat.reduceBEq]
  (repeat (first | refine Run.seq ?_ | refine Run.skip ?_ | refine Run.label ?_ | refine Run.block ?_ | refine Run.unblock ?_)); refine Run.condW (by simp only [AW1, simprocAttr, Int.toNat_natCast, beq_self_eq_true, hX]; rfl) (by simp only [AW1, simprocAttr, Int.toNat_natCast, beq_self_eq_true, hX]) ?_ ?_
  · intro hc
    (repeat (first | refine Run.seq ?_ | refine Run.skip ?_ | refine Run.label ?_ | refine Run.block ?_ | refine Run.unblock ?_)); refine Run.regionW hC (fun K hK => ?_); simp only [AW1, simprocAttr, Int.toNat_natCast, beq_self_eq_true, hX]; (repeat (with_reducible refine And.intro ?_ ?_); focus (first | omega | (intros; simp_all; done) | (intro h; simp only [VB] at h; omega) | (intros; simp_all; omega))); refine hK _ ?_; clear hK K; (repeat (first | refine Run.seq ?_ | refine Run.skip ?_ | refine Run.label ?_ | refine Run.block ?_ | refine Run.unblock ?_))
    refine Run.retW [6] (by decide) (by rw [hfn]; rfl) (by simp only [AW1, simprocAttr, Int.toNat_natCast, beq_self_eq_true, hX]; rfl) (by simp only [AW1, simprocAttr, Int.toNat_natCast, beq_self_eq_true, hX]) (hfin _ _ rfl rfl ?_)
    rfl
  intro hc
  have hb : b.length ≤ 1048576 := by simp at hc; omega
  clear hc
  (repeat (first | refine Run.seq ?_ | refine Run.skip ?_ | refine Run.label ?_ | refine Run.block ?_ | refine Run.unblock ?_)); refine Run.regionW hC (fun K hK => ?_); simp only [AW1, simprocAttr, Int.toNat_natCast, beq_self_eq_true, hX]; (repeat (with_reducible refine And.intro ?_ ?_); focus (first | omega | (intros; simp_all; done) | (intro h; simp only [VB] at h; omega) | (intros; simp_all; omega))); refine hK _ ?_; clear hK K; (repeat (first | refine Run.seq ?_ | refine Run.skip ?_ | refine Run.label ?_ | refine Run.block ?_ | refine Run.unblock ?_))
  refine Run.keep [0, 1, 2, 6, 7] ?_; simp only [AK, Nat.reduceBEq]
  (repeat (first | refine Run.seq ?_ | refine Run.skip ?_ | refine Run.label ?_ | refine Run.block ?_ | refine Run.unblock ?_)); refine Run.regionW hC (fun K hK => ?_); simp only [AW1, simprocAttr, Int.toNat_natCast, beq_self_eq_true, hX]; (repeat (with_reducible refine And.intro ?_ ?_); focus (first | omega | (intros; simp_all; done) | (intro h; simp only [VB] at h; omega) | (intros; simp_all; omega)))
  refine FunA.callW hP hT (c_szIntSS c (1048576) ⟨by omega, by omega⟩) (by simp only [AW1, simprocAttr, Int.toNat_natCast, beq_self_eq_true]) ?_
  rintro rs o ⟨rfl, rfl⟩
  (try simp only [AW1, simprocAttr, Int.toNat_natCast, beq_self_eq_true, hX]); (repeat (with_reducible refine And.intro ?_ ?_); focus (first | omega | (intros; simp_all; done) | (intro h; simp only [VB] at h; omega) | (intros; simp_all; omega)))
  (repeat (with_reducible refine And.intro ?_ ?_); focus (first | omega | (intros; simp_all; done) | (intro h; simp only [VB] at h; omega) | (intros; simp_all; omega))); refine hK _ ?_; clear hK K; (repeat (first | refine Run.seq ?_ | refine Run.skip ?_ | refine Run.label ?_ | refine Run.block ?_ | refine Run.unblock ?_))
  refine Run.keep [0, 1, 2, 6, 7] ?_; simp only [AK, Nat.reduceBEq]
  (repeat (first | refine Run.seq ?_ | refine Run.skip ?_ | refine Run.label ?_ | refine Run.block ?_ | refine Run.unblock ?_)); refine Run.regionW hC (fun K hK => ?_); simp only [AW1, simprocAttr, Int.toNat_natCast, beq_self_eq_true, hX]; (repeat (with_reducible refine And.intro ?_ ?_); focus (first | omega | (intros; simp_all; done) | (intro h; simp only [VB] at h; omega) | (intros; simp_all; omega))); refine hK _ ?_; clear hK K; (repeat (first | refine Run.seq ?_ | refine Run.skip ?_ | refine Run.label ?_ | refine Run.block ?_ | refine Run.unblock ?_))
  refine Run.keep [0, 1, 2, 6, 7, 30] ?_; simp only [AK, Nat.reduceBEq]
  (repeat (first | refine Run.seq ?_ | refine Run.skip ?_ | refine Run.label ?_ | refine Run.block ?_ | refine Run.unblock ?_)); refine Run.condW (by simp only [AW1, simprocAttr, Int.toNat_natCast, beq_self_eq_true, hX]; rfl) (by simp only [AW1, simprocAttr, Int.toNat_natCast, beq_self_eq_true, hX]) ?_ ?_
  · intro hc
    (repeat (first | refine Run.seq ?_ | refine Run.skip ?_ | refine Run.label ?_ | refine Run.block ?_ | refine Run.unblock ?_)); refine Run.regionW hC (fun K hK => ?_); simp only [AW1, simprocAttr, Int.toNat_natCast, beq_self_eq_true, hX]; (repeat (with_reducible refine And.intro ?_ ?_); focus (first | omega | (intros; simp_all; done) | (intro h; simp only [VB] at h; omega) | (intros; simp_all; omega))); refine hK _ ?_; clear hK K; (repeat (first | refine Run.seq ?_ | refine Run.skip ?_ | refine Run.label ?_ | refine Run.block ?_ | refine Run.unblock ?_))
    refine Run.retW [6] (by decide) (by rw [hfn]; rfl) (by simp only [AW1, simprocAttr, Int.toNat_natCast, beq_self_eq_true, hX]; rfl) (by simp only [AW1, simprocAttr, Int.toNat_natCast, beq_self_eq_true, hX]) (hfin _ _ rfl rfl ?_)
    rfl
  intro hc
  have hzc : 0 ≤ szII c (1048576) := by simp at hc; omega
  clear hc
  have hbc := szII_all c (1048576) ⟨by omega, by omega⟩ hzc
  obtain ⟨hcn, hcr, hcs, hcl⟩ := hbc
  (repeat (first | refine Run.seq ?_ | refine Run.skip ?_ | refine Run.label ?_ | refine Run.block ?_ | refine Run.unblock ?_)); refine Run.regionW hC (fun K hK => ?_); simp only [AW1, simprocAttr, Int.toNat_natCast, beq_self_eq_true, hX]; (repeat (with_reducible refine And.intro ?_ ?_); focus (first | omega | (intros; simp_all; done) | (intro h; simp only [VB] at h; omega) | (intros; simp_all; omega)))
  refine FunA.callW hP hT (c_toIntSS c hcn hcr) (by simp only [AW1, simprocAttr, Int.toNat_natCast, beq_self_eq_true]) ?_
  rintro rs o ⟨rfl, hs1, hs1l, rfl⟩
  (try simp only [AW1, simprocAttr, Int.toNat_natCast, beq_self_eq_true, hX]); (repeat (with_reducible refine And.intro ?_ ?_); focus (first | omega | (intros; simp_all; done) | (intro h; simp only [VB] at h; omega) | (intros; simp_all; omega)))
  refine FunA.callW hP hT (c_toIntS a ha) (by simp only [AW1, simprocAttr, Int.toNat_natCast, beq_self_eq_true]) ?_
  rintro rs o ⟨rfl, rfl⟩
  (try simp only [AW1, simprocAttr, Int.toNat_natCast, beq_self_eq_true, hX]); (repeat (with_reducible refine And.intro ?_ ?_); focus (first | omega | (intros; simp_all; done) | (intro h; simp only [VB] at h; omega) | (intros; simp_all; omega)))
  refine FunA.callW hP hT (c_toIntS b hb) (by simp only [AW1, simprocAttr, Int.toNat_natCast, beq_self_eq_true]) ?_
  rintro rs o ⟨rfl, rfl⟩
  (try simp only [AW1, simprocAttr, Int.toNat_natCast, beq_self_eq_true, hX]); (repeat (with_reducible refine And.intro ?_ ?_); focus (first | omega | (intros; simp_all; done) | (intro h; simp only [VB] at h; omega) | (intros; simp_all; omega)))
  refine FunA.callW hP hT (c_spec_StarProduct c a b hcn) (by simp only [AW1, simprocAttr, Int.toNat_natCast, beq_self_eq_true]) ?_
  rintro rs o ⟨rfl, rfl⟩
  (try simp only [AW1, simprocAttr, Int.toNat_natCast, beq_self_eq_true, hX]); (repeat (with_reducible refine And.intro ?_ ?_); focus (first | omega | (intros; simp_all; done) | (intro h; simp only [VB] at h; omega) | (intros; simp_all; omega)))
  (repeat (with_reducible refine And.intro ?_ ?_); focus (first | omega | (intros; simp_all; done) | (intro h; simp only [VB] at h; omega) | (intros; simp_all; omega))); refine hK _ ?_; clear hK K; (repeat (first | refine Run.seq ?_ | refine Run.skip ?_ | refine Run.label ?_ | refine Run.block ?_ | refine Run.unblock ?_))
  refine Run.keep [0, 1, 2, 6, 7, 8, 9] ?_; simp only [AK, Nat.reduceBEq]
  (repeat (first | refine Run.seq ?_ | refine Run.skip ?_ | refine Run.label ?_ | refine Run.block ?_ | refine Run.unblock ?_)); refine Run.regionW hC (fun K hK => ?_); simp only [AW1, simprocAttr, Int.toNat_natCast, beq_self_eq_true, hX]; (repeat (with_reducible refine And.intro ?_ ?_); focus (first | omega | (intros; simp_all; done) | (intro h; simp only [VB] at h; omega) | (intros; simp_all; omega)))
  refine FunA.callW hP hT (c_toIntSS c hcn hcr) (by simp only [AW1, simprocAttr, Int.toNat_natCast, beq_self_eq_true]) ?_
  rintro rs o ⟨rfl, hs2, hs2l, rfl⟩
  (try simp only [AW1, simprocAttr, Int.toNat_natCast, beq_self_eq_true, hX]); (repeat (with_reducible refine And.intro ?_ ?_); focus (first | omega | (intros; simp_all; done) | (intro h; simp only [VB] at h; omega) | (intros; simp_all; omega)))
  (repeat (with_reducible refine And.intro ?_ ?_); focus (first | omega | (intros; simp_all; done) | (intro h; simp only [VB] at h; omega) | (intros; simp_all; omega))); refine hK _ ?_; clear hK K; (repeat (first | refine Run.seq ?_ | refine Run.skip ?_ | refine Run.label ?_ | refine Run.block ?_ | refine Run.unblock ?_))
  refine Run.keep [0, 1, 2, 6, 7, 8, 9, 10] ?_; simp only [AK, Nat.reduceBEq]
  (repeat (first | refine Run.seq ?_ | refine Run.skip ?_ | refine Run.label ?_ | refine Run.block ?_ | refine Run.unblock ?_)); refine Run.regionW hC (fun K hK => ?_); simp only [AW1, simprocAttr, Int.toNat_natCast, beq_self_eq_true, hX]; (repeat (with_reducible refine And.intro ?_ ?_); focus (first | omega | (intros; simp_all; done) | (intro h; simp only [VB] at h; omega) | (intros; simp_all; omega)))
  refine FunA.callW hP hT (c_toIntS a ha) (by simp only [AW1, simprocAttr, Int.toNat_natCast, beq_self_eq_true]) ?_
  rintro rs o ⟨rfl, rfl⟩
  (try simp only [AW1, simprocAttr, Int.toNat_natCast, beq_self_eq_true, hX]); (repeat (with_reducible refine And.intro ?_ ?_); focus (first | omega | (intros; simp_all; done) | (intro h; simp only [VB] at h; omega) | (intros; simp_all; omega)))
  (repeat (with_reducible refine And.intro ?_ ?_); focus (first | omega | (intros; simp_all; done) | (intro h; simp only [VB] at h; omega) | (intros; simp_all; omega))); refine hK _ ?_; clear hK K; (repeat (first | refine Run.seq ?_ | refine Run.skip ?_ | refine Run.label ?_ | refine Run.block ?_ | refine Run.unblock ?_))
  refine Run.keep [0, 1, 2, 6, 7, 8, 9, 10, 11] ?_; simp only [AK, Nat.reduceBEq]
  (repeat (first | refine Run.seq ?_ | refine Run.skip ?_ | refine Run.label ?_ | refine Run.block ?_ | refine Run.unblock ?_)); refine Run.regionW hC (fun K hK => ?_); simp only [AW1, simprocAttr, Int.toNat_natCast, beq_self_eq_true, hX]; (repeat (with_reducible refine And.intro ?_ ?_); focus (first | omega | (intros; simp_all; done) | (intro h; simp only [VB] at h; omega) | (intros; simp_all; omega)))
  refine FunA.callW hP hT (c_toIntS b hb) (by simp only [AW1, simprocAttr, Int.toNat_natCast, beq_self_eq_true]) ?_
  rintro rs o ⟨rfl, rfl⟩
  (try simp only [AW1, simprocAttr, Int.toNat_natCast, beq_self_eq_true, hX]); (repeat (with_reducible refine And.intro ?_ ?_); focus (first | omega | (intros; simp_all; done) | (intro h; simp only [VB] at h; omega) | (intros; simp_all; omega)))
  (repeat (with_reducible refine And.intro ?_ ?_); focus (first | omega | (intros; simp_all; done) | (intro h; simp only [VB] at h; omega) | (intros; simp_all; omega))); refine hK _ ?_; clear hK K; (repeat (first | refine Run.seq ?_ | refine Run.skip ?_ | refine Run.label ?_ | refine Run.block ?_ | refine Run.unblock ?_))
  refine Run.keep [0, 1, 2, 6, 7, 8, 9, 10, 11, 12] ?_; simp only [AK, Nat.reduceBEq]
  (repeat (first | refine Run.seq ?_ | refine Run.skip ?_ | refine Run.label ?_ | refine Run.block ?_ | refine Run.unblock ?_)); refine Run.regionW hC (fun K hK => ?_); simp only [AW1, simprocAttr, Int.toNat_natCast, beq_self_eq_true, hX]; (repeat (with_reducible refine And.intro ?_ ?_); focus (first | omega | (intros; simp_all; done) | (intro h; simp only [VB] at h; omega) | (intros; simp_all; omega)))
  refine FunA.callW hP hT (c_impl_StarProduct c a b hcn) (by simp only [AW1, simprocAttr, Int.toNat_natCast, beq_self_eq_true]) ?_
  rintro rs o ⟨rfl, rfl⟩
  (try simp only [AW1, simprocAttr, Int.toNat_natCast, beq_self_eq_true, hX]); (repeat (with_reducible refine And.intro ?_ ?_); focus (first | omega | (intros; simp_all; done) | (intro h; simp only [VB] at h; omega) | (intros; simp_all; omega)))
  (repeat (with_reducible refine And.intro ?_ ?_); focus (first | omega | (intros; simp_all; done) | (intro h; simp only [VB] at h; omega) | (intros; simp_all; omega))); refine hK _ ?_; clear hK K; (repeat (first | refine Run.seq ?_ | refine Run.skip ?_ | refine Run.label ?_ | refine Run.block ?_ | refine Run.unblock ?_))
  refine Run.keep [0, 1, 2, 6, 7, 8, 9, 10, 11, 12, 13, 14] ?_; simp only [AK, Nat.reduceBEq]
  (repeat (first | refine Run.seq ?_ | refine Run.skip ?_ | refine Run.label ?_ | refine Run.block ?_ | refine Run.unblock ?_)); refine Run.regionW hC (fun K hK => ?_); simp only [AW1, simprocAttr, Int.toNat_natCast, beq_self_eq_true, hX]; (repeat (with_reducible refine And.intro ?_ ?_); focus (first | omega | (intros; simp_all; done) | (intro h; simp only [VB] at h; omega) | (intros; simp_all; omega)))
  refine FunA.callW hP hT (c_eqIntS (starPr c a b) (starPr c a b) (by have := starPr_le c a b; omega)) (by simp only [AW1, simprocAttr, Int.toNat_natCast, beq_self_eq_true]) ?_
  rintro rs o ⟨rfl, rfl⟩
  (try simp only [AW1, simprocAttr, Int.toNat_natCast, beq_self_eq_true, hX]); (repeat (with_reducible refine And.intro ?_ ?_); focus (first | omega | (intros; simp_all; done) | (intro h; simp only [VB] at h; omega) | (intros; simp_all; omega)))
  (repeat (with_reducible refine And.intro ?_ ?_); focus (first | omega | (intros; simp_all; done) | (intro h; simp only [VB] at h; omega) | (intros; simp_all; omega))); refine hK _ ?_; clear hK K; (repeat (first | refine Run.seq ?_ | refine Run.skip ?_ | refine Run.label ?_ | refine Run.block ?_ | refine Run.unblock ?_))
  refine Run.keep [0, 1, 2, 6, 7, 8, 9, 10, 11, 12, 13, 14, 62] ?_; simp only [AK, Nat.reduceBEq]
  (repeat (first | refine Run.seq ?_ | refine Run.skip ?_ | refine Run.label ?_ | refine Run.block ?_ | refine Run.unblock ?_)); refine Run.condW (by simp only [AW1, simprocAttr, Int.toNat_natCast, beq_self_eq_true, hX]; rfl) (by simp only [AW1, simprocAttr, Int.toNat_natCast, beq_self_eq_true, hX]) ?_ ?_
  · intro hc
    exfalso
    simp [iota_length, sumL_iotaR] at hc <;> omega
  intro hc0; clear hc0
  (repeat (first | refine Run.seq ?_ | refine Run.skip ?_ | refine Run.label ?_ | refine Run.block ?_ | refine Run.unblock ?_)); refine Run.regionW hC (fun K hK => ?_); simp only [AW1, simprocAttr, Int.toNat_natCast, beq_self_eq_true, hX]; (repeat (with_reducible refine And.intro ?_ ?_); focus (first | omega | (intros; simp_all; done) | (intro h; simp only [VB] at h; omega) | (intros; simp_all; omega)))
  refine FunA.callW hP hT (c_toIntSS c hcn hcr) (by simp only [AW1, simprocAttr, Int.toNat_natCast, beq_self_eq_true]) ?_
  rintro rs o ⟨rfl, hs3, hs3l, rfl⟩
  (try simp only [AW1, simprocAttr, Int.toNat_natCast, beq_self_eq_true, hX]); (repeat (with_reducible refine And.intro ?_ ?_); focus (first | omega | (intros; simp_all; done) | (intro h; simp only [VB] at h; omega) | (intros; simp_all; omega)))
  refine FunA.callW hP hT (c_eqIntSS (c) (c) (by omega) (fun r hr => by have := hcr r hr; omega)) (by simp only [AW1, simprocAttr, Int.toNat_natCast, beq_self_eq_true]) ?_
  rintro rs o ⟨rfl, rfl⟩
  (try simp only [AW1, simprocAttr, Int.toNat_natCast, beq_self_eq_true, hX]); (repeat (with_reducible refine And.intro ?_ ?_); focus (first | omega | (intros; simp_all; done) | (intro h; simp only [VB] at h; omega) | (intros; simp_all; omega)))
  (repeat (with_reducible refine And.intro ?_ ?_); focus (first | omega | (intros; simp_all; done) | (intro h; simp only [VB] at h; omega) | (intros; simp_all; omega))); refine hK _ ?_; clear hK K; (repeat (first | refine Run.seq ?_ | refine Run.skip ?_ | refine Run.label ?_ | refine Run.block ?_ | refine Run.unblock ?_))
  refine Run.keep [0, 1, 2, 6, 7, 8, 9, 10, 11, 12, 13, 14, 67] ?_; simp only [AK, Nat.reduceBEq]
  (repeat (first | refine Run.seq ?_ | refine Run.skip ?_ | refine Run.label ?_ | refine Run.block ?_ | refine Run.unblock ?_)); refine Run.condW (by simp only [AW1, simprocAttr, Int.toNat_natCast, beq_self_eq_true, hX]; rfl) (by simp only [AW1, simprocAttr, Int.toNat_natCast, beq_self_eq_true, hX]) ?_ ?_
  · intro hc
    exfalso
    simp [iota_length, sumL_iotaR] at hc <;> omega
  intro hc0; clear hc0
  (repeat (first | refine Run.seq ?_ | refine Run.skip ?_ | refine Run.label ?_ | refine Run.block ?_ | refine Run.unblock ?_)); refine Run.regionW hC (fun K hK => ?_); simp only [AW1, simprocAttr, Int.toNat_natCast, beq_self_eq_true, hX]; (repeat (with_reducible refine And.intro ?_ ?_); focus (first | omega | (intros; simp_all; done) | (intro h; simp only [VB] at h; omega) | (intros; simp_all; omega)))
  refine FunA.callW hP hT (c_toIntS a ha) (by simp only [AW1, simprocAttr, Int.toNat_natCast, beq_self_eq_true]) ?_
  rintro rs o ⟨rfl, rfl⟩
  (try simp only [AW1, simprocAttr, Int.toNat_natCast, beq_self_eq_true, hX]); (repeat (with_reducible refine And.intro ?_ ?_); focus (first | omega | (intros; simp_all; done) | (intro h; simp only [VB] at h; omega) | (intros; simp_all; omega)))
  refine FunA.callW hP hT (c_eqIntS (a) (a) (by omega)) (by simp only [AW1, simprocAttr, Int.toNat_natCast, beq_self_eq_true]) ?_
  rintro rs o ⟨rfl, rfl⟩
  (try simp only [AW1, simprocAttr, Int.toNat_natCast, beq_self_eq_true, hX]); (repeat (with_reducible refine And.intro ?_ ?_); focus (first | omega | (intros; simp_all; done) | (intro h; simp only [VB] at h; omega) | (intros; simp_all; omega)))
  (repeat (with_reducible refine And.intro ?_ ?_); focus (first | omega | (intros; simp_all; done) | (intro h; simp only [VB] at h; omega) | (intros; simp_all; omega))); refine hK _ ?_; clear hK K; (repeat (first | refine Run.seq ?_ | refine Run.skip ?_ | refine Run.label ?_ | refine Run.block ?_ | refine Run.unblock ?_))
  refine Run.keep [0, 1, 2, 6, 7, 8, 9, 10, 11, 12, 13, 14, 72] ?_; simp only [AK, Nat.reduceBEq]
  (repeat (first | refine Run.seq ?_ | refine Run.skip ?_ | refine Run.label ?_ | refine Run.block ?_ | refine Run.unblock ?_)); refine Run.condW (by simp only [AW1, simprocAttr, Int.toNat_natCast, beq_self_eq_true, hX]; rfl) (by simp only [AW1, simprocAttr, Int.toNat_natCast, beq_self_eq_true, hX]) ?_ ?_
  · intro hc
    exfalso
    simp [iota_length, sumL_iotaR] at hc <;> omega
  intro hc0; clear hc0
  (repeat (first | refine Run.seq ?_ | refine Run.skip ?_ | refine Run.label ?_ | refine Run.block ?_ | refine Run.unblock ?_)); refine Run.regionW hC (fun K hK => ?_); simp only [AW1, simprocAttr, Int.toNat_natCast, beq_self_eq_true, hX]; (repeat (with_reducible refine And.intro ?_ ?_); focus (first | omega | (intros; simp_all; done) | (intro h; simp only [VB] at h; omega) | (intros; simp_all; omega)))
  refine FunA.callW hP hT (c_toIntS b hb) (by simp only [AW1, simprocAttr, Int.toNat_natCast, beq_self_eq_true]) ?_
  rintro rs o ⟨rfl, rfl⟩
  (try simp only [AW1, simprocAttr, Int.toNat_natCast, beq_self_eq_true, hX]); (repeat (with_reducible refine And.intro ?_ ?_); focus (first | omega | (intros; simp_all; done) | (intro h; simp only [VB] at h; omega) | (intros; simp_all; omega)))
  refine FunA.callW hP hT (c_eqIntS (b) (b) (by omega)) (by simp only [AW1, simprocAttr, Int.toNat_natCast, beq_self_eq_true]) ?_
  rintro rs o ⟨rfl, rfl⟩
  (try simp only [AW1, simprocAttr, Int.toNat_natCast, beq_self_eq_true, hX]); (repeat (with_reducible refine And.intro ?_ ?_); focus (first | omega | (intros; simp_all; done) | (intro h; simp only [VB] at h; omega) | (intros; simp_all; omega)))
  (repeat (with_reducible refine And.intro ?_ ?_); focus (first | omega | (intros; simp_all; done) | (intro h; simp only [VB] at h; omega) | (intros; simp_all; omega))); refine hK _ ?_; clear hK K; (repeat (first | refine Run.seq ?_ | refine Run.skip ?_ | refine Run.label ?_ | refine Run.block ?_ | refine Run.unblock ?_))
  refine Run.keep [0, 1, 2, 6, 7, 8, 9, 10, 11, 12, 13, 14, 77] ?_; simp only [AK, Nat.reduceBEq]
  (repeat (first | refine Run.seq ?_ | refine Run.skip ?_ | refine Run.label ?_ | refine Run.block ?_ | refine Run.unblock ?_)); refine Run.condW (by simp only [AW1, simprocAttr, Int.toNat_natCast, beq_self_eq_true, hX]; rfl) (by simp only [AW1, simprocAttr, Int.toNat_natCast, beq_self_eq_true, hX]) ?_ ?_
  · intro hc
    exfalso
    simp [iota_length, sumL_iotaR] at hc <;> omega
  intro hc0; clear hc0
  (repeat (first | refine Run.seq ?_ | refine Run.skip ?_ | refine Run.label ?_ | refine Run.block ?_ | refine Run.unblock ?_)); refine Run.regionW hC (fun K hK => ?_); simp only [AW1, simprocAttr, Int.toNat_natCast, beq_self_eq_true, hX]; (repeat (with_reducible refine And.intro ?_ ?_); focus (first | omega | (intros; simp_all; done) | (intro h; simp only [VB] at h; omega) | (intros; simp_all; omega))); refine hK _ ?_; clear hK K; (repeat (first | refine Run.seq ?_ | refine Run.skip ?_ | refine Run.label ?_ | refine Run.block ?_ | refine Run.unblock ?_))
  refine Run.keep [0, 1, 2, 6, 7, 8, 9, 10, 11, 12, 13, 14, 15] ?_; simp only [AK, Nat.reduceBEq]
  (repeat (first | refine Run.seq ?_ | refine Run.skip ?_ | refine Run.label ?_ | refine Run.block ?_ | refine Run.unblock ?_)); refine Run.regionW hC (fun K hK => ?_); simp only [AW1, simprocAttr, Int.toNat_natCast, beq_self_eq_true, hX]; (repeat (with_reducible refine And.intro ?_ ?_); focus (first | omega | (intros; simp_all; done) | (intro h; simp only [VB] at h; omega) | (intros; simp_all; omega)))
  refine FunO.callMat hP hT (c_markIntSS hs2 (c) 1 (by omega) (by omega) true) 4 0 (by simp only [AW1, simprocAttr, Int.toNat_natCast, beq_self_eq_true]; rfl) (by simp) (by simp only [AW1, simprocAttr, Int.toNat_natCast, beq_self_eq_true]) ?_
  rintro rs o o2 ⟨rfl, h⟩; obtain ⟨rfl, rfl⟩ := List.cons.inj h
  (try simp only [AW1, simprocAttr, Int.toNat_natCast, beq_self_eq_true, hX]); (repeat (with_reducible refine And.intro ?_ ?_); focus (first | omega | (intros; simp_all; done) | (intro h; simp only [VB] at h; omega) | (intros; simp_all; omega)))
  (repeat (with_reducible refine And.intro ?_ ?_); focus (first | omega | (intros; simp_all; done) | (intro h; simp only [VB] at h; omega) | (intros; simp_all; omega))); refine hK _ ?_; clear hK K; (repeat (first | refine Run.seq ?_ | refine Run.skip ?_ | refine Run.label ?_ | refine Run.block ?_ | refine Run.unblock ?_))
  refine Run.keep [0, 1, 2, 6, 7, 8, 9, 10, 11, 12, 13, 14, 15] ?_; simp only [AK, Nat.reduceBEq]
  (repeat (first | refine Run.seq ?_ | refine Run.skip ?_ | refine Run.label ?_ | refine Run.block ?_ | refine Run.unblock ?_)); refine Run.regionW hC (fun K hK => ?_); simp only [AW1, simprocAttr, Int.toNat_natCast, beq_self_eq_true, hX]; (repeat (with_reducible refine And.intro ?_ ?_); focus (first | omega | (intros; simp_all; done) | (intro h; simp only [VB] at h; omega) | (intros; simp_all; omega)))
  refine FunM.call hP hT (c_markIntS (a) (1 + (sumL (c) : Int)) (by omega) (by have := starPr_le c a b; omega) true) 5 0 (by simp only [AW1, simprocAttr, Int.toNat_natCast, beq_self_eq_true]; rfl) (by simp) rfl (by simp only [AW1, simprocAttr, Int.toNat_natCast, beq_self_eq_true]; try simp) ?_
  rintro rs o o2 ⟨rfl, h⟩; obtain ⟨rfl, rfl⟩ := List.cons.inj h
  (try simp only [AW1, simprocAttr, Int.toNat_natCast, beq_self_eq_true, hX]); (repeat (with_reducible refine And.intro ?_ ?_); focus (first | omega | (intros; simp_all; done) | (intro h; simp only [VB] at h; omega) | (intros; simp_all; omega)))
  (repeat (with_reducible refine And.intro ?_ ?_); focus (first | omega | (intros; simp_all; done) | (intro h; simp only [VB] at h; omega) | (intros; simp_all; omega))); refine hK _ ?_; clear hK K; (repeat (first | refine Run.seq ?_ | refine Run.skip ?_ | refine Run.label ?_ | refine Run.block ?_ | refine Run.unblock ?_))
  refine Run.keep [0, 1, 2, 6, 7, 8, 9, 10, 11, 12, 13, 14, 15] ?_; simp only [AK, Nat.reduceBEq]
  (repeat (first | refine Run.seq ?_ | refine Run.skip ?_ | refine Run.label ?_ | refine Run.block ?_ | refine Run.unblock ?_)); refine Run.regionW hC (fun K hK => ?_); simp only [AW1, simprocAttr, Int.toNat_natCast, beq_self_eq_true, hX]; (repeat (with_reducible refine And.intro ?_ ?_); focus (first | omega | (intros; simp_all; done) | (intro h; simp only [VB] at h; omega) | (intros; simp_all; omega)))
  refine FunM.call hP hT (c_markIntS (b) ((1 + (sumL (c) : Int)) + ((a).length : Int)) (by omega) (by have := starPr_le c a b; omega) true) 6 0 (by simp only [AW1, simprocAttr, Int.toNat_natCast, beq_self_eq_true]; rfl) (by simp) rfl (by simp only [AW1, simprocAttr, Int.toNat_natCast, beq_self_eq_true]; try simp) ?_
  rintro rs o o2 ⟨rfl, h⟩; obtain ⟨rfl, rfl⟩ := List.cons.inj h
  (try simp only [AW1, simprocAttr, Int.toNat_natCast, beq_self_eq_true, hX]); (repeat (with_reducible refine And.intro ?_ ?_); focus (first | omega | (intros; simp_all; done) | (intro h; simp only [VB] at h; omega) | (intros; simp_all; omega)))
  (repeat (with_reducible refine And.intro ?_ ?_); focus (first | omega | (intros; simp_all; done) | (intro h; simp only [VB] at h; omega) | (intros; simp_all; omega))); refine hK _ ?_; clear hK K; (repeat (first | refine Run.seq ?_ | refine Run.skip ?_ | refine Run.label ?_ | refine Run.block ?_ | refine Run.unblock ?_))
  refine Run.keep [0, 1, 2, 6, 7, 8, 9, 10, 11, 12, 13, 14, 15] ?_; simp only [AK, Nat.reduceBEq]
  (repeat (first | refine Run.seq ?_ | refine Run.skip ?_ | refine Run.label ?_ | refine Run.block ?_ | refine Run.unblock ?_)); refine Run.regionW hC (fun K hK => ?_); simp only [AW1, simprocAttr, Int.toNat_natCast, beq_self_eq_true, hX]; (repeat (with_reducible refine And.intro ?_ ?_); focus (first | omega | (intros; simp_all; done) | (intro h; simp only [VB] at h; omega) | (intros; simp_all; omega)))
  refine .inl (FunA.callG hP hT (c_eqIntS (starPr c a b) (starPr c a b) (by have := starPr_le c a b; omega)) (fun _ => rfl) (fun _ => by simp only [AW1, simprocAttr, Int.toNat_natCast, beq_self_eq_true]) ?_)
  (try simp only [AW1, simprocAttr, Int.toNat_natCast, beq_self_eq_true, hX]); (repeat (with_reducible refine And.intro ?_ ?_); focus (first | omega | (intros; simp_all; done) | (intro h; simp only [VB] at h; omega) | (intros; simp_all; omega)))
  (repeat (with_reducible refine And.intro ?_ ?_); focus (first | omega | (intros; simp_all; done) | (intro h; simp only [VB] at h; omega) | (intros; simp_all; omega))); refine hK _ ?_; clear hK K; (repeat (first | refine Run.seq ?_ | refine Run.skip ?_ | refine Run.label ?_ | refine Run.block ?_ | refine Run.unblock ?_))
  refine Run.keep [0, 1, 2, 6, 7, 8, 9, 10, 11, 12, 13, 14, 15, 99] ?_; simp only [AK, Nat.reduceBEq]
  (repeat (first | refine Run.seq ?_ | refine Run.skip ?_ | refine Run.label ?_ | refine Run.block ?_ | refine Run.unblock ?_)); refine Run.condW (by simp only [AW1, simprocAttr, Int.toNat_natCast, beq_self_eq_true, hX]; rfl) (by simp only [AW1, simprocAttr, Int.toNat_natCast, beq_self_eq_true, hX]) ?_ ?_
  · intro hc
    exfalso
    simp [iota_length, sumL_iotaR] at hc <;> omega
  intro hc0; clear hc0
  (repeat (first | refine Run.seq ?_ | refine Run.skip ?_ | refine Run.label ?_ | refine Run.block ?_ | refine Run.unblock ?_)); refine Run.regionW hC (fun K hK => ?_); simp only [AW1, simprocAttr, Int.toNat_natCast, beq_self_eq_true, hX]; (repeat (with_reducible refine And.intro ?_ ?_); focus (first | omega | (intros; simp_all; done) | (intro h; simp only [VB] at h; omega) | (intros; simp_all; omega))); refine hK _ ?_; clear hK K; (repeat (first | refine Run.seq ?_ | refine Run.skip ?_ | refine Run.label ?_ | refine Run.block ?_ | refine Run.unblock ?_))
  refine Run.keep [0, 1, 2, 6, 7, 8, 9, 10, 11, 12, 13, 14, 15, 16] ?_; simp only [AK, Nat.reduceBEq]
  (repeat (first | refine Run.seq ?_ | refine Run.skip ?_ | refine Run.label ?_ | refine Run.block ?_ | refine Run.unblock ?_)); refine Run.regionW hC (fun K hK => ?_); simp only [AW1, simprocAttr, Int.toNat_natCast, beq_self_eq_true, hX]; (repeat (with_reducible refine And.intro ?_ ?_); focus (first | omega | (intros; simp_all; done) | (intro h; simp only [VB] at h; omega) | (intros; simp_all; omega)))
  refine FunM.call hP hT (c_markIntS (starPr c a b) 1 (by have := starPr_le c a b; omega) (by have := starPr_le c a b; omega) true) 7 0 (by simp only [AW1, simprocAttr, Int.toNat_natCast, beq_self_eq_true]; rfl) (by simp) rfl (by simp only [AW1, simprocAttr, Int.toNat_natCast, beq_self_eq_true]; try simp) ?_
  rintro rs o o2 ⟨rfl, h⟩; obtain ⟨rfl, rfl⟩ := List.cons.inj h
  (try simp only [AW1, simprocAttr, Int.toNat_natCast, beq_self_eq_true, hX]); (repeat (with_reducible refine And.intro ?_ ?_); focus (first | omega | (intros; simp_all; done) | (intro h; simp only [VB] at h; omega) | (intros; simp_all; omega)))
  (repeat (with_reducible refine And.intro ?_ ?_); focus (first | omega | (intros; simp_all; done) | (intro h; simp only [VB] at h; omega) | (intros; simp_all; omega))); refine hK _ ?_; clear hK K; (repeat (first | refine Run.seq ?_ | refine Run.skip ?_ | refine Run.label ?_ | refine Run.block ?_ | refine Run.unblock ?_))
  refine Run.keep [0, 1, 2, 6, 7, 8, 9, 10, 11, 12, 13, 14, 15, 16] ?_; simp only [AK, Nat.reduceBEq]
  (repeat (first | refine Run.seq ?_ | refine Run.skip ?_ | refine Run.label ?_ | refine Run.block ?_ | refine Run.unblock ?_)); refine Run.regionW hC (fun K hK => ?_); simp only [AW1, simprocAttr, Int.toNat_natCast, beq_self_eq_true, hX]; (repeat (with_reducible refine And.intro ?_ ?_); focus (first | omega | (intros; simp_all; done) | (intro h; simp only [VB] at h; omega) | (intros; simp_all; omega))); refine hK _ ?_; clear hK K; (repeat (first | refine Run.seq ?_ | refine Run.skip ?_ | refine Run.label ?_ | refine Run.block ?_ | refine Run.unblock ?_))
  refine Run.keep [0, 1, 2, 6, 7, 8, 9, 10, 11, 12, 13, 14, 15, 16, 17] ?_; simp only [AK, Nat.reduceBEq]
  (repeat (first | refine Run.seq ?_ | refine Run.skip ?_ | refine Run.label ?_ | refine Run.block ?_ | refine Run.unblock ?_)); refine Run.regionW hC (fun K hK => ?_); simp only [AW1, simprocAttr, Int.toNat_natCast, beq_self_eq_true, hX]; (repeat (with_reducible refine And.intro ?_ ?_); focus (first | omega | (intros; simp_all; done) | (intro h; simp only [VB] at h; omega) | (intros; simp_all; omega)))
  refine FunA.callW hP hT (c_heldIota 1 (starPr c a b).length (by have := starPr_le c a b; omega) (by have := starPr_le c a b; omega)) (by simp only [AW1, simprocAttr, Int.toNat_natCast, beq_self_eq_true]) ?_
  rintro rs o ⟨rfl, rfl⟩
  (try simp only [AW1, simprocAttr, Int.toNat_natCast, beq_self_eq_true, hX]); (repeat (with_reducible refine And.intro ?_ ?_); focus (first | omega | (intros; simp_all; done) | (intro h; simp only [VB] at h; omega) | (intros; simp_all; omega)))
  (repeat (with_reducible refine And.intro ?_ ?_); focus (first | omega | (intros; simp_all; done) | (intro h; simp only [VB] at h; omega) | (intros; simp_all; omega))); refine hK _ ?_; clear hK K; (repeat (first | refine Run.seq ?_ | refine Run.skip ?_ | refine Run.label ?_ | refine Run.block ?_ | refine Run.unblock ?_))
  refine Run.keep [0, 1, 2, 6, 7, 8, 9, 10, 11, 12, 13, 14, 15, 16, 17] ?_; simp only [AK, Nat.reduceBEq]
  (repeat (first | refine Run.seq ?_ | refine Run.skip ?_ | refine Run.label ?_ | refine Run.block ?_ | refine Run.unblock ?_)); refine Run.regionW hC (fun K hK => ?_); simp only [AW1, simprocAttr, Int.toNat_natCast, beq_self_eq_true, hX]; (repeat (with_reducible refine And.intro ?_ ?_); focus (first | omega | (intros; simp_all; done) | (intro h; simp only [VB] at h; omega) | (intros; simp_all; omega))); refine hK _ ?_; clear hK K; (repeat (first | refine Run.seq ?_ | refine Run.skip ?_ | refine Run.label ?_ | refine Run.block ?_ | refine Run.unblock ?_))
  refine Run.keep [0, 1, 2, 6, 7, 8, 9, 10, 11, 12, 13, 14, 15, 16, 17, 107] ?_; simp only [AK, Nat.reduceBEq]
  (repeat (first | refine Run.seq ?_ | refine Run.skip ?_ | refine Run.label ?_ | refine Run.block ?_ | refine Run.unblock ?_)); refine Run.condW (by simp only [AW1, simprocAttr, Int.toNat_natCast, beq_self_eq_true, hX]; rfl) (by simp only [AW1, simprocAttr, Int.toNat_natCast, beq_self_eq_true, hX]) ?_ ?_
  · intro hc
    exfalso
    simp [iota_length, sumL_iotaR] at hc <;> omega
  intro hc0; clear hc0
  (repeat (first | refine Run.seq ?_ | refine Run.skip ?_ | refine Run.label ?_ | refine Run.block ?_ | refine Run.unblock ?_)); refine Run.regionW hC (fun K hK => ?_); simp only [AW1, simprocAttr, Int.toNat_natCast, beq_self_eq_true, hX]; (repeat (with_reducible refine And.intro ?_ ?_); focus (first | omega | (intros; simp_all; done) | (intro h; simp only [VB] at h; omega) | (intros; simp_all; omega))); refine hK _ ?_; clear hK K; (repeat (first | refine Run.seq ?_ | refine Run.skip ?_ | refine Run.label ?_ | refine Run.block ?_ | refine Run.unblock ?_))
  refine Run.keep [0, 1, 2, 6, 7, 8, 9, 10, 11, 12, 13, 14, 15, 16, 17, 110] ?_; simp only [AK, Nat.reduceBEq]
  (repeat (first | refine Run.seq ?_ | refine Run.skip ?_ | refine Run.label ?_ | refine Run.block ?_ | refine Run.unblock ?_)); refine Run.condW (by simp only [AW1, simprocAttr, Int.toNat_natCast, beq_self_eq_true, hX]; rfl) (by simp only [AW1, simprocAttr, Int.toNat_natCast, beq_self_eq_true, hX]) ?_ ?_
  · intro hc
    exfalso
    simp [iota_length, sumL_iotaR] at hc <;> omega
  intro hc0; clear hc0
  (repeat (first | refine Run.seq ?_ | refine Run.skip ?_ | refine Run.label ?_ | refine Run.block ?_ | refine Run.unblock ?_)); refine Run.regionW hC (fun K hK => ?_); simp only [AW1, simprocAttr, Int.toNat_natCast, beq_self_eq_true, hX]; (repeat (with_reducible refine And.intro ?_ ?_); focus (first | omega | (intros; simp_all; done) | (intro h; simp only [VB] at h; omega) | (intros; simp_all; omega)))
  refine FunA.callW hP hT (c_toIntSS c hcn hcr) (by simp only [AW1, simprocAttr, Int.toNat_natCast, beq_self_eq_true]) ?_
  rintro rs o ⟨rfl, hs4, hs4l, rfl⟩
  (try simp only [AW1, simprocAttr, Int.toNat_natCast, beq_self_eq_true, hX]); (repeat (with_reducible refine And.intro ?_ ?_); focus (first | omega | (intros; simp_all; done) | (intro h; simp only [VB] at h; omega) | (intros; simp_all; omega)))
  refine FunA.callW hP hT (c_toIntS a ha) (by simp only [AW1, simprocAttr, Int.toNat_natCast, beq_self_eq_true]) ?_
  rintro rs o ⟨rfl, rfl⟩
  (try simp only [AW1, simprocAttr, Int.toNat_natCast, beq_self_eq_true, hX]); (repeat (with_reducible refine And.intro ?_ ?_); focus (first | omega | (intros; simp_all; done) | (intro h; simp only [VB] at h; omega) | (intros; simp_all; omega)))
  refine FunA.callW hP hT (c_toIntS b hb) (by simp only [AW1, simprocAttr, Int.toNat_natCast, beq_self_eq_true]) ?_
  rintro rs o ⟨rfl, rfl⟩
  (try simp only [AW1, simprocAttr, Int.toNat_natCast, beq_self_eq_true, hX]); (repeat (with_reducible refine And.intro ?_ ?_); focus (first | omega | (intros; simp_all; done) | (intro h; simp only [VB] at h; omega) | (intros; simp_all; omega)))
  refine FunA.callW hP hT (c_impl_StarProduct c a b hcn) (by simp only [AW1, simprocAttr, Int.toNat_natCast, beq_self_eq_true]) ?_
  rintro rs o ⟨rfl, rfl⟩
  (try simp only [AW1, simprocAttr, Int.toNat_natCast, beq_self_eq_true, hX]); (repeat (with_reducible refine And.intro ?_ ?_); focus (first | omega | (intros; simp_all; done) | (intro h; simp only [VB] at h; omega) | (intros; simp_all; omega)))
  (repeat (with_reducible refine And.intro ?_ ?_); focus (first | omega | (intros; simp_all; done) | (intro h; simp only [VB] at h; omega) | (intros; simp_all; omega))); refine hK _ ?_; clear hK K; (repeat (first | refine Run.seq ?_ | refine Run.skip ?_ | refine Run.label ?_ | refine Run.block ?_ | refine Run.unblock ?_))
  refine Run.keep [0, 1, 2, 6, 7, 8, 9, 10, 11, 12, 13, 14, 15, 16, 17, 18, 19] ?_; simp only [AK, Nat.reduceBEq]
  (repeat (first | refine Run.seq ?_ | refine Run.skip ?_ | refine Run.label ?_ | refine Run.block ?_ | refine Run.unblock ?_)); refine Run.regionW hC (fun K hK => ?_); simp only [AW1, simprocAttr, Int.toNat_natCast, beq_self_eq_true, hX]; (repeat (with_reducible refine And.intro ?_ ?_); focus (first | omega | (intros; simp_all; done) | (intro h; simp only [VB] at h; omega) | (intros; simp_all; omega)))
  refine FunA.callW hP hT (c_eqIntS (starPr c a b) (starPr c a b) (by have := starPr_le c a b; omega)) (by simp only [AW1, simprocAttr, Int.toNat_natCast, beq_self_eq_true]) ?_
  rintro rs o ⟨rfl, rfl⟩
  (try simp only [AW1, simprocAttr, Int.toNat_natCast, beq_self_eq_true, hX]); (repeat (with_reducible refine And.intro ?_ ?_); focus (first | omega | (intros; simp_all; done) | (intro h; simp only [VB] at h; omega) | (intros; simp_all; omega)))
  (repeat (with_reducible refine And.intro ?_ ?_); focus (first | omega | (intros; simp_all; done) | (intro h; simp only [VB] at h; omega) | (intros; simp_all; omega))); refine hK _ ?_; clear hK K; (repeat (first | refine Run.seq ?_ | refine Run.skip ?_ | refine Run.label ?_ | refine Run.block ?_ | refine Run.unblock ?_))
  refine Run.keep [0, 1, 2, 6, 7, 8, 9, 10, 11, 12, 13, 14, 15, 16, 17, 18, 19, 129] ?_; simp only [AK, Nat.reduceBEq]
  (repeat (first | refine Run.seq ?_ | refine Run.skip ?_ | refine Run.label ?_ | refine Run.block ?_ | refine Run.unblock ?_)); refine Run.condW (by simp only [AW1, simprocAttr, Int.toNat_natCast, beq_self_eq_true, hX]; rfl) (by simp only [AW1, simprocAttr, Int.toNat_natCast, beq_self_eq_true, hX]) ?_ ?_
  · intro hc
    exfalso
    simp [iota_length, sumL_iotaR] at hc <;> omega
  intro hc0; clear hc0
  (repeat (first | refine Run.seq ?_ | refine Run.skip ?_ | refine Run.label ?_ | refine Run.block ?_ | refine Run.unblock ?_)); refine Run.regionW hC (fun K hK => ?_); simp only [AW1, simprocAttr, Int.toNat_natCast, beq_self_eq_true, hX]; (repeat (with_reducible refine And.intro ?_ ?_); focus (first | omega | (intros; simp_all; done) | (intro h; simp only [VB] at h; omega) | (intros; simp_all; omega))); refine hK _ ?_; clear hK K; (repeat (first | refine Run.seq ?_ | refine Run.skip ?_ | refine Run.label ?_ | refine Run.block ?_ | refine Run.unblock ?_))
  refine Run.keep [0, 1, 2, 6, 7, 8, 9, 10, 11, 12, 13, 14, 15, 16, 17, 18, 19] ?_; simp only [AK, Nat.reduceBEq]
  (repeat (first | refine Run.seq ?_ | refine Run.skip ?_ | refine Run.label ?_ | refine Run.block ?_ | refine Run.unblock ?_)); refine Run.regionW hC (fun K hK => ?_); simp only [AW1, simprocAttr, Int.toNat_natCast, beq_self_eq_true, hX]; (repeat (with_reducible refine And.intro ?_ ?_); focus (first | omega | (intros; simp_all; done) | (intro h; simp only [VB] at h; omega) | (intros; simp_all; omega)))
  refine FunA.callW hP hT (c_heldIota 1 (starPr c a b).length (by have := starPr_le c a b; omega) (by have := starPr_le c a b; omega)) (by simp only [AW1, simprocAttr, Int.toNat_natCast, beq_self_eq_true]) ?_
  rintro rs o ⟨rfl, rfl⟩
  (try simp only [AW1, simprocAttr, Int.toNat_natCast, beq_self_eq_true, hX]); (repeat (with_reducible refine And.intro ?_ ?_); focus (first | omega | (intros; simp_all; done) | (intro h; simp only [VB] at h; omega) | (intros; simp_all; omega)))
  (repeat (with_reducible refine And.intro ?_ ?_); focus (first | omega | (intros; simp_all; done) | (intro h; simp only [VB] at h; omega) | (intros; simp_all; omega))); refine hK _ ?_; clear hK K; (repeat (first | refine Run.seq ?_ | refine Run.skip ?_ | refine Run.label ?_ | refine Run.block ?_ | refine Run.unblock ?_))
  refine Run.keep [0, 1, 2, 6, 7, 8, 9, 10, 11, 12, 13, 14, 15, 16, 17, 18, 19] ?_; simp only [AK, Nat.reduceBEq]
  (repeat (first | refine Run.seq ?_ | refine Run.skip ?_ | refine Run.label ?_ | refine Run.block ?_ | refine Run.unblock ?_)); refine Run.regionW hC (fun K hK => ?_); simp only [AW1, simprocAttr, Int.toNat_natCast, beq_self_eq_true, hX]; (repeat (with_reducible refine And.intro ?_ ?_); focus (first | omega | (intros; simp_all; done) | (intro h; simp only [VB] at h; omega) | (intros; simp_all; omega))); refine hK _ ?_; clear hK K; (repeat (first | refine Run.seq ?_ | refine Run.skip ?_ | refine Run.label ?_ | refine Run.block ?_ | refine Run.unblock ?_))
  refine Run.keep [0, 1, 2, 6, 7, 8, 9, 10, 11, 12, 13, 14, 15, 16, 17, 18, 19, 134] ?_; simp only [AK, Nat.reduceBEq]
  (repeat (first | refine Run.seq ?_ | refine Run.skip ?_ | refine Run.label ?_ | refine Run.block ?_ | refine Run.unblock ?_)); refine Run.condW (by simp only [AW1, simprocAttr, Int.toNat_natCast, beq_self_eq_true, hX]; rfl) (by simp only [AW1, simprocAttr, Int.toNat_natCast, beq_self_eq_true, hX]) ?_ ?_
  · intro hc
    exfalso
    simp [iota_length, sumL_iotaR] at hc <;> omega
  intro hc0; clear hc0
  (repeat (first | refine Run.seq ?_ | refine Run.skip ?_ | refine Run.label ?_ | refine Run.block ?_ | refine Run.unblock ?_)); refine Run.regionW hC (fun K hK => ?_); simp only [AW1, simprocAttr, Int.toNat_natCast, beq_self_eq_true, hX]; (repeat (with_reducible refine And.intro ?_ ?_); focus (first | omega | (intros; simp_all; done) | (intro h; simp only [VB] at h; omega) | (intros; simp_all; omega))); refine hK _ ?_; clear hK K; (repeat (first | refine Run.seq ?_ | refine Run.skip ?_ | refine Run.label ?_ | refine Run.block ?_ | refine Run.unblock ?_))
  refine Run.keep [0, 1, 2, 6, 7, 8, 9, 10, 11, 12, 13, 14, 15, 16, 17, 18, 19, 137] ?_; simp only [AK, Nat.reduceBEq]
  (repeat (first | refine Run.seq ?_ | refine Run.skip ?_ | refine Run.label ?_ | refine Run.block ?_ | refine Run.unblock ?_)); refine Run.condW (by simp only [AW1, simprocAttr, Int.toNat_natCast, beq_self_eq_true, hX]; rfl) (by simp only [AW1, simprocAttr, Int.toNat_natCast, beq_self_eq_true, hX]) ?_ ?_
  · intro hc
    exfalso
    simp [iota_length, sumL_iotaR] at hc <;> omega
  intro hc0; clear hc0
  (repeat (first | refine Run.seq ?_ | refine Run.skip ?_ | refine Run.label ?_ | refine Run.block ?_ | refine Run.unblock ?_)); refine Run.regionW hC (fun K hK => ?_); simp only [AW1, simprocAttr, Int.toNat_natCast, beq_self_eq_true, hX]; (repeat (with_reducible refine And.intro ?_ ?_); focus (first | omega | (intros; simp_all; done) | (intro h; simp only [VB] at h; omega) | (intros; simp_all; omega))); refine hK _ ?_; clear hK K; (repeat (first | refine Run.seq ?_ | refine Run.skip ?_ | refine Run.label ?_ | refine Run.block ?_ | refine Run.unblock ?_))
  refine Run.keep [0, 1, 2, 6, 7, 8, 9, 10, 11, 12, 13, 14, 15, 16, 17, 18, 19] ?_; simp only [AK, Nat.reduceBEq]
  refine Run.retW [6] (by decide) (by rw [hfn]; rfl) (by simp only [AW1, simprocAttr, Int.toNat_natCast, beq_self_eq_true, hX]; rfl) (by simp only [AW1, simprocAttr, Int.toNat_natCast, beq_self_eq_true, hX]) (hfin _ _ rfl rfl ?_)
  rfl
end Go.Proofs.Ytbeeblhmgpgkjaa

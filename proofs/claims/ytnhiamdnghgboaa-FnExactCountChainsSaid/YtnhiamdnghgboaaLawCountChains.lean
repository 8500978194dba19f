/- The law FnExactCountChains. -/
import Derived.Test.YtnhiamdnghgboaaCnt5
import Derived.Test.YtnhiamdnghgboaaBase4
set_option linter.unusedVariables false
set_option linter.unusedSimpArgs false
namespace Go.Proofs.Ytnhiamdnghgboaa
open Go Go.Aw

theorem c_FnExactCountChains (c : List (List Int)) (w : List Int) (_ : ∀ r ∈ c, ∀ n ∈ r, (Lit.int .i64 n).wf = true) (_ : ∀ n ∈ w, (Lit.int .i64 n).wf = true) : FunA B 3 [.sl false (.row false) c, .sl false .int w] (fun rs _ => rs = [.bool true]) := by
  refine FunA.walk B_ok (fn := Try.f3) (fun vs w => Try.call3 vs w) Try.func3 rfl (by rw [Try.ntmps3]; simp) (fun C hC hP hT hΓ hbt hfn hpin hfin => ?_); have hX := BX; rw [← hΓ, ← hbt.1, ← hbt.2] at hX; rw [Try.ntmps3]; simp only [AW6, simprocAttr, hX]
  refine Run.nq ?_; refine Run.regionW hC (fun K hK => ?_); simp only [AW6, simprocAttr, hX]; (repeat (with_reducible refine And.intro ?_ ?_); exact vc0); refine hK _ ?_; clear hK K; refine Run.nq ?_
  refine Run.keep [0, 1, 4] ?_; simp only [AK, Nat.reduceBEq]
  refine Run.nq ?_; refine Run.regionW hC (fun K hK => ?_); simp only [AW6, simprocAttr, hX]; (repeat (with_reducible refine And.intro ?_ ?_); exact vc0); refine hK _ ?_; clear hK K; refine Run.nq ?_
  refine Run.keep [0, 1, 4, 12] ?_; simp only [AK, Nat.reduceBEq]
  refine Run.nq ?_; refine Run.condW (by simp only [AW6, simprocAttr, hX]; rfl) (by simp only [AW6, simprocAttr, hX]) ?_ ?_
  · intro hc
    refine Run.nq ?_; refine Run.regionW hC (fun K hK => ?_); simp only [AW6, simprocAttr, hX]; (repeat (with_reducible refine And.intro ?_ ?_); exact vc0); refine hK _ ?_; clear hK K; refine Run.nq ?_
    refine Run.retW [4] (by decide) (by rw [hfn]; rfl) (by simp only [AW6, simprocAttr, hX]; rfl) (by simp only [AW6, simprocAttr, hX]) (hfin _ _ rfl rfl ?_)
    rfl
  intro hc
  have hw : w.length ≤ 1048576 := by simp at hc; omega
  clear hc
  refine Run.nq ?_; refine Run.regionW hC (fun K hK => ?_); simp only [AW6, simprocAttr, hX]; (repeat (with_reducible refine And.intro ?_ ?_); exact vc0); refine hK _ ?_; clear hK K; refine Run.nq ?_
  refine Run.keep [0, 1, 4, 5] ?_; simp only [AK, Nat.reduceBEq]
  refine Run.nq ?_; refine Run.regionW hC (fun K hK => ?_); simp only [AW6, simprocAttr, hX]; (repeat (with_reducible refine And.intro ?_ ?_); exact vc0)
  refine FunA.callW hP hT (c_szIntSS c (1048576) ⟨by omega, by omega⟩) (by simp only [AW6, simprocAttr]) ?_
  rintro rs o ⟨rfl, rfl⟩
  (try simp only [AW6, simprocAttr, hX]); (repeat (with_reducible refine And.intro ?_ ?_); exact vc0)
  (repeat (with_reducible refine And.intro ?_ ?_); exact vc0); refine hK _ ?_; clear hK K; refine Run.nq ?_
  refine Run.keep [0, 1, 4, 5] ?_; simp only [AK, Nat.reduceBEq]
  refine Run.nq ?_; refine Run.regionW hC (fun K hK => ?_); simp only [AW6, simprocAttr, hX]; (repeat (with_reducible refine And.intro ?_ ?_); exact vc0); refine hK _ ?_; clear hK K; refine Run.nq ?_
  refine Run.keep [0, 1, 4, 5, 17] ?_; simp only [AK, Nat.reduceBEq]
  refine Run.nq ?_; refine Run.condW (by simp only [AW6, simprocAttr, hX]; rfl) (by simp only [AW6, simprocAttr, hX]) ?_ ?_
  · intro hc
    refine Run.nq ?_; refine Run.regionW hC (fun K hK => ?_); simp only [AW6, simprocAttr, hX]; (repeat (with_reducible refine And.intro ?_ ?_); exact vc0); refine hK _ ?_; clear hK K; refine Run.nq ?_
    refine Run.retW [4] (by decide) (by rw [hfn]; rfl) (by simp only [AW6, simprocAttr, hX]; rfl) (by simp only [AW6, simprocAttr, hX]) (hfin _ _ rfl rfl ?_)
    rfl
  intro hc
  have hzc : 0 ≤ szII c (1048576) := by simp at hc; omega
  clear hc
  have hbc := szII_all c (1048576) ⟨by omega, by omega⟩ hzc
  obtain ⟨hcn, hcr, hcs, hcl⟩ := hbc
  refine Run.nq ?_; refine Run.regionW hC (fun K hK => ?_); simp only [AW6, simprocAttr, hX]; (repeat (with_reducible refine And.intro ?_ ?_); exact vc0)
  refine FunA.callW hP hT (c_toIntSS c hcn hcr) (by simp only [AW6, simprocAttr]) ?_
  rintro rs o ⟨rfl, hs1, hs1l, rfl⟩
  (try simp only [AW6, simprocAttr, hX]); (repeat (with_reducible refine And.intro ?_ ?_); exact vc0)
  refine FunA.callW hP hT (c_toIntS w hw) (by simp only [AW6, simprocAttr]) ?_
  rintro rs o ⟨rfl, rfl⟩
  (try simp only [AW6, simprocAttr, hX]); (repeat (with_reducible refine And.intro ?_ ?_); exact vc0)
  refine FunA.callW hP hT (c_spec_CountChains c w hcn) (by simp only [AW6, simprocAttr]) ?_
  rintro rs o ⟨rfl, rfl⟩
  (try simp only [AW6, simprocAttr, hX]); (repeat (with_reducible refine And.intro ?_ ?_); exact vc0)
  (repeat (with_reducible refine And.intro ?_ ?_); exact vc0); refine hK _ ?_; clear hK K; refine Run.nq ?_
  refine Run.keep [0, 1, 4, 5, 6] ?_; simp only [AK, Nat.reduceBEq]
  refine Run.nq ?_; refine Run.regionW hC (fun K hK => ?_); simp only [AW6, simprocAttr, hX]; (repeat (with_reducible refine And.intro ?_ ?_); exact vc0)
  refine FunA.callW hP hT (c_toIntSS c hcn hcr) (by simp only [AW6, simprocAttr]) ?_
  rintro rs o ⟨rfl, hs2, hs2l, rfl⟩
  (try simp only [AW6, simprocAttr, hX]); (repeat (with_reducible refine And.intro ?_ ?_); exact vc0)
  (repeat (with_reducible refine And.intro ?_ ?_); exact vc0); refine hK _ ?_; clear hK K; refine Run.nq ?_
  refine Run.keep [0, 1, 4, 5, 6, 7] ?_; simp only [AK, Nat.reduceBEq]
  refine Run.nq ?_; refine Run.regionW hC (fun K hK => ?_); simp only [AW6, simprocAttr, hX]; (repeat (with_reducible refine And.intro ?_ ?_); exact vc0)
  refine FunA.callW hP hT (c_toIntS w hw) (by simp only [AW6, simprocAttr]) ?_
  rintro rs o ⟨rfl, rfl⟩
  (try simp only [AW6, simprocAttr, hX]); (repeat (with_reducible refine And.intro ?_ ?_); exact vc0)
  (repeat (with_reducible refine And.intro ?_ ?_); exact vc0); refine hK _ ?_; clear hK K; refine Run.nq ?_
  refine Run.keep [0, 1, 4, 5, 6, 7, 8] ?_; simp only [AK, Nat.reduceBEq]
  refine Run.nq ?_; refine Run.regionW hC (fun K hK => ?_); simp only [AW6, simprocAttr, hX]; (repeat (with_reducible refine And.intro ?_ ?_); exact vc0)
  refine FunA.callW hP hT (c_impl_CountChains c w hcn) (by simp only [AW6, simprocAttr]) ?_
  rintro rs o ⟨rfl, rfl⟩
  (try simp only [AW6, simprocAttr, hX]); (repeat (with_reducible refine And.intro ?_ ?_); exact vc0)
  (repeat (with_reducible refine And.intro ?_ ?_); exact vc0); refine hK _ ?_; clear hK K; refine Run.nq ?_
  refine Run.keep [0, 1, 4, 5, 6, 7, 8, 9] ?_; simp only [AK, Nat.reduceBEq]
  refine Run.nq ?_; refine Run.regionW hC (fun K hK => ?_); simp only [AW6, simprocAttr, hX]; (repeat (with_reducible refine And.intro ?_ ?_); exact vc0); refine hK _ ?_; clear hK K; refine Run.nq ?_
  refine Run.keep [0, 1, 4, 5, 6, 7, 8, 9, 32] ?_; simp only [AK, Nat.reduceBEq]
  refine Run.nq ?_; refine Run.condW (by simp only [AW6, simprocAttr, hX]; rfl) (by simp only [AW6, simprocAttr, hX]) ?_ ?_
  · intro hc
    exfalso
    simp [iota_length, sumL_iotaR] at hc <;> omega
  intro hc0; clear hc0
  refine Run.nq ?_; refine Run.regionW hC (fun K hK => ?_); simp only [AW6, simprocAttr, hX]; (repeat (with_reducible refine And.intro ?_ ?_); exact vc0)
  refine FunA.callW hP hT (c_toIntSS c hcn hcr) (by simp only [AW6, simprocAttr]) ?_
  rintro rs o ⟨rfl, hs3, hs3l, rfl⟩
  (try simp only [AW6, simprocAttr, hX]); (repeat (with_reducible refine And.intro ?_ ?_); exact vc0)
  refine FunA.callW hP hT (c_eqIntSS (c) (c) (by omega) (fun r hr => by have := hcr r hr; omega)) (by simp only [AW6, simprocAttr]) ?_
  rintro rs o ⟨rfl, rfl⟩
  (try simp only [AW6, simprocAttr, hX]); (repeat (with_reducible refine And.intro ?_ ?_); exact vc0)
  (repeat (with_reducible refine And.intro ?_ ?_); exact vc0); refine hK _ ?_; clear hK K; refine Run.nq ?_
  refine Run.keep [0, 1, 4, 5, 6, 7, 8, 9, 37] ?_; simp only [AK, Nat.reduceBEq]
  refine Run.nq ?_; refine Run.condW (by simp only [AW6, simprocAttr, hX]; rfl) (by simp only [AW6, simprocAttr, hX]) ?_ ?_
  · intro hc
    exfalso
    simp [iota_length, sumL_iotaR] at hc <;> omega
  intro hc0; clear hc0
  refine Run.nq ?_; refine Run.regionW hC (fun K hK => ?_); simp only [AW6, simprocAttr, hX]; (repeat (with_reducible refine And.intro ?_ ?_); exact vc0)
  refine FunA.callW hP hT (c_toIntS w hw) (by simp only [AW6, simprocAttr]) ?_
  rintro rs o ⟨rfl, rfl⟩
  (try simp only [AW6, simprocAttr, hX]); (repeat (with_reducible refine And.intro ?_ ?_); exact vc0)
  refine FunA.callW hP hT (c_eqIntS (w) (w) (by omega)) (by simp only [AW6, simprocAttr]) ?_
  rintro rs o ⟨rfl, rfl⟩
  (try simp only [AW6, simprocAttr, hX]); (repeat (with_reducible refine And.intro ?_ ?_); exact vc0)
  (repeat (with_reducible refine And.intro ?_ ?_); exact vc0); refine hK _ ?_; clear hK K; refine Run.nq ?_
  refine Run.keep [0, 1, 4, 5, 6, 7, 8, 9, 42] ?_; simp only [AK, Nat.reduceBEq]
  refine Run.nq ?_; refine Run.condW (by simp only [AW6, simprocAttr, hX]; rfl) (by simp only [AW6, simprocAttr, hX]) ?_ ?_
  · intro hc
    exfalso
    simp [iota_length, sumL_iotaR] at hc <;> omega
  intro hc0; clear hc0
  refine Run.nq ?_; refine Run.regionW hC (fun K hK => ?_); simp only [AW6, simprocAttr, hX]; (repeat (with_reducible refine And.intro ?_ ?_); exact vc0); refine hK _ ?_; clear hK K; refine Run.nq ?_
  refine Run.keep [0, 1, 4, 5, 6, 7, 8, 9] ?_; simp only [AK, Nat.reduceBEq]
  refine Run.retW [4] (by decide) (by rw [hfn]; rfl) (by simp only [AW6, simprocAttr, hX]; rfl) (by simp only [AW6, simprocAttr, hX]) (hfin _ _ rfl rfl ?_)
  rfl
end Go.Proofs.Ytnhiamdnghgboaa

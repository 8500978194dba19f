/- The law FnExactIntervalOf. -/
import Derived.Test.YtdhfonblpbpmmaaItv
import Derived.Test.YtdhfonblpbpmmaaBase4
set_option linter.unusedVariables false
set_option linter.unusedSimpArgs false
namespace Go.Proofs.Ytdhfonblpbpmmaa
open Go Go.Aw

theorem c_FnExactIntervalOf (c : List (List Int)) (u : List Int) (v : List Int) (_ : ∀ r ∈ c, ∀ n ∈ r, (Lit.int .i64 n).wf = true) (_ : ∀ n ∈ u, (Lit.int .i64 n).wf = true) (_ : ∀ n ∈ v, (Lit.int .i64 n).wf = true) : FunA B 7 [.sl false (.row false) c, .sl false .int u, .sl false .int v] (fun rs _ => rs = [.bool true]) := by
  refine FunA.walk B_ok (fn := Try.f7) (fun vs w => Try.call7 vs w) Try.func7 rfl (by rw [Try.ntmps7]; simp) (fun C hC hP hT hΓ hbt hfn hpin hfin => ?_); have hX := BX; rw [← hΓ, ← hbt.1, ← hbt.2] at hX; rw [Try.ntmps7]; simp only [AW7, simprocAttr, hX]
  refine Run.nq ?_; refine Run.regionW hC (fun K hK => ?_); simp only [AW7, simprocAttr, hX]; (repeat (with_reducible refine And.intro ?_ ?_); exact vc0); refine hK _ ?_; clear hK K; refine Run.nq ?_
  refine Run.keep [0, 1, 2, 6] ?_; simp only [AK, Nat.reduceBEq]
  refine Run.nq ?_; refine Run.regionW hC (fun K hK => ?_); simp only [AW7, simprocAttr, hX]; (repeat (with_reducible refine And.intro ?_ ?_); exact vc0); refine hK _ ?_; clear hK K; refine Run.nq ?_
  refine Run.keep [0, 1, 2, 6, 22] ?_; simp only [AK, Nat.reduceBEq]
  refine Run.nq ?_; refine Run.condW (by simp only [AW7, simprocAttr, hX]; rfl) (by simp only [AW7, simprocAttr, hX]) ?_ ?_
  · intro hc
    refine Run.nq ?_; refine Run.regionW hC (fun K hK => ?_); simp only [AW7, simprocAttr, hX]; (repeat (with_reducible refine And.intro ?_ ?_); exact vc0); refine hK _ ?_; clear hK K; refine Run.nq ?_
    refine Run.retW [6] (by decide) (by rw [hfn]; rfl) (by simp only [AW7, simprocAttr, hX]; rfl) (by simp only [AW7, simprocAttr, hX]) (hfin _ _ rfl rfl ?_)
    rfl
  intro hc
  have hu : u.length ≤ 1048576 := by simp at hc; omega
  clear hc
  refine Run.nq ?_; refine Run.regionW hC (fun K hK => ?_); simp only [AW7, simprocAttr, hX]; (repeat (with_reducible refine And.intro ?_ ?_); exact vc0); refine hK _ ?_; clear hK K; refine Run.nq ?_
  refine Run.keep [0, 1, 2, 6, 25] ?_; simp only [AK, Nat.reduceBEq]
  refine Run.nq ?_; refine Run.condW (by simp only [AW7, simprocAttr, hX]; rfl) (by simp only [AW7, simprocAttr, hX]) ?_ ?_
  · intro hc
    refine Run.nq ?_; refine Run.regionW hC (fun K hK => ?_); simp only [AW7, simprocAttr, hX]; (repeat (with_reducible refine And.intro ?_ ?_); exact vc0); refine hK _ ?_; clear hK K; refine Run.nq ?_
    refine Run.retW [6] (by decide) (by rw [hfn]; rfl) (by simp only [AW7, simprocAttr, hX]; rfl) (by simp only [AW7, simprocAttr, hX]) (hfin _ _ rfl rfl ?_)
    rfl
  intro hc
  have hv : v.length ≤ 1048576 := by simp at hc; omega
  clear hc
  refine Run.nq ?_; refine Run.regionW hC (fun K hK => ?_); simp only [AW7, simprocAttr, hX]; (repeat (with_reducible refine And.intro ?_ ?_); exact vc0); refine hK _ ?_; clear hK K; refine Run.nq ?_
  refine Run.keep [0, 1, 2, 6, 7] ?_; simp only [AK, Nat.reduceBEq]
  refine Run.nq ?_; refine Run.regionW hC (fun K hK => ?_); simp only [AW7, simprocAttr, hX]; (repeat (with_reducible refine And.intro ?_ ?_); exact vc0)
  refine FunA.callW hP hT (c_szIntSS c (1048576) ⟨by omega, by omega⟩) (by simp only [AW7, simprocAttr]) ?_
  rintro rs o ⟨rfl, rfl⟩
  (try simp only [AW7, simprocAttr, hX]); (repeat (with_reducible refine And.intro ?_ ?_); exact vc0)
  (repeat (with_reducible refine And.intro ?_ ?_); exact vc0); refine hK _ ?_; clear hK K; refine Run.nq ?_
  refine Run.keep [0, 1, 2, 6, 7] ?_; simp only [AK, Nat.reduceBEq]
  refine Run.nq ?_; refine Run.regionW hC (fun K hK => ?_); simp only [AW7, simprocAttr, hX]; (repeat (with_reducible refine And.intro ?_ ?_); exact vc0); refine hK _ ?_; clear hK K; refine Run.nq ?_
  refine Run.keep [0, 1, 2, 6, 7, 30] ?_; simp only [AK, Nat.reduceBEq]
  refine Run.nq ?_; refine Run.condW (by simp only [AW7, simprocAttr, hX]; rfl) (by simp only [AW7, simprocAttr, hX]) ?_ ?_
  · intro hc
    refine Run.nq ?_; refine Run.regionW hC (fun K hK => ?_); simp only [AW7, simprocAttr, hX]; (repeat (with_reducible refine And.intro ?_ ?_); exact vc0); refine hK _ ?_; clear hK K; refine Run.nq ?_
    refine Run.retW [6] (by decide) (by rw [hfn]; rfl) (by simp only [AW7, simprocAttr, hX]; rfl) (by simp only [AW7, simprocAttr, hX]) (hfin _ _ rfl rfl ?_)
    rfl
  intro hc
  have hzc : 0 ≤ szII c (1048576) := by simp at hc; omega
  clear hc
  have hbc := szII_all c (1048576) ⟨by omega, by omega⟩ hzc
  obtain ⟨hcn, hcr, hcs, hcl⟩ := hbc
  refine Run.nq ?_; refine Run.regionW hC (fun K hK => ?_); simp only [AW7, simprocAttr, hX]; (repeat (with_reducible refine And.intro ?_ ?_); exact vc0)
  refine FunA.callW hP hT (c_toIntSS c hcn hcr) (by simp only [AW7, simprocAttr]) ?_
  rintro rs o ⟨rfl, hs1, hs1l, rfl⟩
  (try simp only [AW7, simprocAttr, hX]); (repeat (with_reducible refine And.intro ?_ ?_); exact vc0)
  refine FunA.callW hP hT (c_toIntS u hu) (by simp only [AW7, simprocAttr]) ?_
  rintro rs o ⟨rfl, rfl⟩
  (try simp only [AW7, simprocAttr, hX]); (repeat (with_reducible refine And.intro ?_ ?_); exact vc0)
  refine FunA.callW hP hT (c_toIntS v hv) (by simp only [AW7, simprocAttr]) ?_
  rintro rs o ⟨rfl, rfl⟩
  (try simp only [AW7, simprocAttr, hX]); (repeat (with_reducible refine And.intro ?_ ?_); exact vc0)
  refine FunA.callW hP hT (c_spec_IntervalOf c u v hcn) (by simp only [AW7, simprocAttr]) ?_
  rintro rs o ⟨rfl, hs2, hs2l, rfl⟩
  (try simp only [AW7, simprocAttr, hX]); (repeat (with_reducible refine And.intro ?_ ?_); exact vc0)
  (repeat (with_reducible refine And.intro ?_ ?_); exact vc0); refine hK _ ?_; clear hK K; refine Run.nq ?_
  refine Run.keep [0, 1, 2, 6, 7, 8, 9] ?_; simp only [AK, Nat.reduceBEq]
  refine Run.nq ?_; refine Run.regionW hC (fun K hK => ?_); simp only [AW7, simprocAttr, hX]; (repeat (with_reducible refine And.intro ?_ ?_); exact vc0)
  refine FunA.callW hP hT (c_toIntSS c hcn hcr) (by simp only [AW7, simprocAttr]) ?_
  rintro rs o ⟨rfl, hs3, hs3l, rfl⟩
  (try simp only [AW7, simprocAttr, hX]); (repeat (with_reducible refine And.intro ?_ ?_); exact vc0)
  (repeat (with_reducible refine And.intro ?_ ?_); exact vc0); refine hK _ ?_; clear hK K; refine Run.nq ?_
  refine Run.keep [0, 1, 2, 6, 7, 8, 9, 10] ?_; simp only [AK, Nat.reduceBEq]
  refine Run.nq ?_; refine Run.regionW hC (fun K hK => ?_); simp only [AW7, simprocAttr, hX]; (repeat (with_reducible refine And.intro ?_ ?_); exact vc0)
  refine FunA.callW hP hT (c_toIntS u hu) (by simp only [AW7, simprocAttr]) ?_
  rintro rs o ⟨rfl, rfl⟩
  (try simp only [AW7, simprocAttr, hX]); (repeat (with_reducible refine And.intro ?_ ?_); exact vc0)
  (repeat (with_reducible refine And.intro ?_ ?_); exact vc0); refine hK _ ?_; clear hK K; refine Run.nq ?_
  refine Run.keep [0, 1, 2, 6, 7, 8, 9, 10, 11] ?_; simp only [AK, Nat.reduceBEq]
  refine Run.nq ?_; refine Run.regionW hC (fun K hK => ?_); simp only [AW7, simprocAttr, hX]; (repeat (with_reducible refine And.intro ?_ ?_); exact vc0)
  refine FunA.callW hP hT (c_toIntS v hv) (by simp only [AW7, simprocAttr]) ?_
  rintro rs o ⟨rfl, rfl⟩
  (try simp only [AW7, simprocAttr, hX]); (repeat (with_reducible refine And.intro ?_ ?_); exact vc0)
  (repeat (with_reducible refine And.intro ?_ ?_); exact vc0); refine hK _ ?_; clear hK K; refine Run.nq ?_
  refine Run.keep [0, 1, 2, 6, 7, 8, 9, 10, 11, 12] ?_; simp only [AK, Nat.reduceBEq]
  refine Run.nq ?_; refine Run.regionW hC (fun K hK => ?_); simp only [AW7, simprocAttr, hX]; (repeat (with_reducible refine And.intro ?_ ?_); exact vc0)
  refine FunA.callW hP hT (c_impl_IntervalOf c u v hcn) (by simp only [AW7, simprocAttr]) ?_
  rintro rs o ⟨rfl, hs4, hs4l, rfl⟩
  (try simp only [AW7, simprocAttr, hX]); (repeat (with_reducible refine And.intro ?_ ?_); exact vc0)
  (repeat (with_reducible refine And.intro ?_ ?_); exact vc0); refine hK _ ?_; clear hK K; refine Run.nq ?_
  refine Run.keep [0, 1, 2, 6, 7, 8, 9, 10, 11, 12, 13, 14] ?_; simp only [AK, Nat.reduceBEq]
  refine Run.nq ?_; refine Run.regionW hC (fun K hK => ?_); simp only [AW7, simprocAttr, hX]; (repeat (with_reducible refine And.intro ?_ ?_); exact vc0)
  refine FunA.callW hP hT (c_eqIntSS (itvX c u v) (itvX c u v) (by have := itvX_len c u v; omega) (fun r hr => by have := itvX_rows c u v r hr; omega)) (by simp only [AW7, simprocAttr]) ?_
  rintro rs o ⟨rfl, rfl⟩
  (try simp only [AW7, simprocAttr, hX]); (repeat (with_reducible refine And.intro ?_ ?_); exact vc0)
  (repeat (with_reducible refine And.intro ?_ ?_); exact vc0); refine hK _ ?_; clear hK K; refine Run.nq ?_
  refine Run.keep [0, 1, 2, 6, 7, 8, 9, 10, 11, 12, 13, 14, 62] ?_; simp only [AK, Nat.reduceBEq]
  refine Run.nq ?_; refine Run.condW (by simp only [AW7, simprocAttr, hX]; rfl) (by simp only [AW7, simprocAttr, hX]) ?_ ?_
  · intro hc
    exfalso
    simp [iota_length, sumL_iotaR] at hc <;> omega
  intro hc0; clear hc0
  refine Run.nq ?_; refine Run.regionW hC (fun K hK => ?_); simp only [AW7, simprocAttr, hX]; (repeat (with_reducible refine And.intro ?_ ?_); exact vc0)
  refine FunA.callW hP hT (c_toIntSS c hcn hcr) (by simp only [AW7, simprocAttr]) ?_
  rintro rs o ⟨rfl, hs5, hs5l, rfl⟩
  (try simp only [AW7, simprocAttr, hX]); (repeat (with_reducible refine And.intro ?_ ?_); exact vc0)
  refine FunA.callW hP hT (c_eqIntSS (c) (c) (by omega) (fun r hr => by have := hcr r hr; omega)) (by simp only [AW7, simprocAttr]) ?_
  rintro rs o ⟨rfl, rfl⟩
  (try simp only [AW7, simprocAttr, hX]); (repeat (with_reducible refine And.intro ?_ ?_); exact vc0)
  (repeat (with_reducible refine And.intro ?_ ?_); exact vc0); refine hK _ ?_; clear hK K; refine Run.nq ?_
  refine Run.keep [0, 1, 2, 6, 7, 8, 9, 10, 11, 12, 13, 14, 67] ?_; simp only [AK, Nat.reduceBEq]
  refine Run.nq ?_; refine Run.condW (by simp only [AW7, simprocAttr, hX]; rfl) (by simp only [AW7, simprocAttr, hX]) ?_ ?_
  · intro hc
    exfalso
    simp [iota_length, sumL_iotaR] at hc <;> omega
  intro hc0; clear hc0
  refine Run.nq ?_; refine Run.regionW hC (fun K hK => ?_); simp only [AW7, simprocAttr, hX]; (repeat (with_reducible refine And.intro ?_ ?_); exact vc0)
  refine FunA.callW hP hT (c_toIntS u hu) (by simp only [AW7, simprocAttr]) ?_
  rintro rs o ⟨rfl, rfl⟩
  (try simp only [AW7, simprocAttr, hX]); (repeat (with_reducible refine And.intro ?_ ?_); exact vc0)
  refine FunA.callW hP hT (c_eqIntS (u) (u) (by omega)) (by simp only [AW7, simprocAttr]) ?_
  rintro rs o ⟨rfl, rfl⟩
  (try simp only [AW7, simprocAttr, hX]); (repeat (with_reducible refine And.intro ?_ ?_); exact vc0)
  (repeat (with_reducible refine And.intro ?_ ?_); exact vc0); refine hK _ ?_; clear hK K; refine Run.nq ?_
  refine Run.keep [0, 1, 2, 6, 7, 8, 9, 10, 11, 12, 13, 14, 72] ?_; simp only [AK, Nat.reduceBEq]
  refine Run.nq ?_; refine Run.condW (by simp only [AW7, simprocAttr, hX]; rfl) (by simp only [AW7, simprocAttr, hX]) ?_ ?_
  · intro hc
    exfalso
    simp [iota_length, sumL_iotaR] at hc <;> omega
  intro hc0; clear hc0
  refine Run.nq ?_; refine Run.regionW hC (fun K hK => ?_); simp only [AW7, simprocAttr, hX]; (repeat (with_reducible refine And.intro ?_ ?_); exact vc0)
  refine FunA.callW hP hT (c_toIntS v hv) (by simp only [AW7, simprocAttr]) ?_
  rintro rs o ⟨rfl, rfl⟩
  (try simp only [AW7, simprocAttr, hX]); (repeat (with_reducible refine And.intro ?_ ?_); exact vc0)
  refine FunA.callW hP hT (c_eqIntS (v) (v) (by omega)) (by simp only [AW7, simprocAttr]) ?_
  rintro rs o ⟨rfl, rfl⟩
  (try simp only [AW7, simprocAttr, hX]); (repeat (with_reducible refine And.intro ?_ ?_); exact vc0)
  (repeat (with_reducible refine And.intro ?_ ?_); exact vc0); refine hK _ ?_; clear hK K; refine Run.nq ?_
  refine Run.keep [0, 1, 2, 6, 7, 8, 9, 10, 11, 12, 13, 14, 77] ?_; simp only [AK, Nat.reduceBEq]
  refine Run.nq ?_; refine Run.condW (by simp only [AW7, simprocAttr, hX]; rfl) (by simp only [AW7, simprocAttr, hX]) ?_ ?_
  · intro hc
    exfalso
    simp [iota_length, sumL_iotaR] at hc <;> omega
  intro hc0; clear hc0
  refine Run.nq ?_; refine Run.regionW hC (fun K hK => ?_); simp only [AW7, simprocAttr, hX]; (repeat (with_reducible refine And.intro ?_ ?_); exact vc0); refine hK _ ?_; clear hK K; refine Run.nq ?_
  refine Run.keep [0, 1, 2, 6, 7, 8, 9, 10, 11, 12, 13, 14, 15] ?_; simp only [AK, Nat.reduceBEq]
  refine Run.nq ?_; refine Run.regionW hC (fun K hK => ?_); simp only [AW7, simprocAttr, hX]; (repeat (with_reducible refine And.intro ?_ ?_); exact vc0)
  refine FunO.callMat hP hT (c_markIntSS hs3 (c) 1 (by omega) (by omega) true) 4 0 (by simp only [AW7, simprocAttr]; rfl) (by simp) (by simp only [AW7, simprocAttr]) ?_
  rintro rs o o2 ⟨rfl, h⟩; obtain ⟨rfl, rfl⟩ := List.cons.inj h
  (try simp only [AW7, simprocAttr, hX]); (repeat (with_reducible refine And.intro ?_ ?_); exact vc0)
  (repeat (with_reducible refine And.intro ?_ ?_); exact vc0); refine hK _ ?_; clear hK K; refine Run.nq ?_
  refine Run.keep [0, 1, 2, 6, 7, 8, 9, 10, 11, 12, 13, 14, 15] ?_; simp only [AK, Nat.reduceBEq]
  refine Run.nq ?_; refine Run.regionW hC (fun K hK => ?_); simp only [AW7, simprocAttr, hX]; (repeat (with_reducible refine And.intro ?_ ?_); exact vc0)
  refine FunM.call hP hT (c_markIntS (u) (1 + (sumL (c) : Int)) (by omega) (by omega) true) 5 0 (by simp only [AW7, simprocAttr]; rfl) (by simp) rfl (by simp only [AW7, simprocAttr]; try simp) ?_
  rintro rs o o2 ⟨rfl, h⟩; obtain ⟨rfl, rfl⟩ := List.cons.inj h
  (try simp only [AW7, simprocAttr, hX]); (repeat (with_reducible refine And.intro ?_ ?_); exact vc0)
  (repeat (with_reducible refine And.intro ?_ ?_); exact vc0); refine hK _ ?_; clear hK K; refine Run.nq ?_
  refine Run.keep [0, 1, 2, 6, 7, 8, 9, 10, 11, 12, 13, 14, 15] ?_; simp only [AK, Nat.reduceBEq]
  refine Run.nq ?_; refine Run.regionW hC (fun K hK => ?_); simp only [AW7, simprocAttr, hX]; (repeat (with_reducible refine And.intro ?_ ?_); exact vc0)
  refine FunM.call hP hT (c_markIntS (v) ((1 + (sumL (c) : Int)) + ((u).length : Int)) (by omega) (by omega) true) 6 0 (by simp only [AW7, simprocAttr]; rfl) (by simp) rfl (by simp only [AW7, simprocAttr]; try simp) ?_
  rintro rs o o2 ⟨rfl, h⟩; obtain ⟨rfl, rfl⟩ := List.cons.inj h
  (try simp only [AW7, simprocAttr, hX]); (repeat (with_reducible refine And.intro ?_ ?_); exact vc0)
  (repeat (with_reducible refine And.intro ?_ ?_); exact vc0); refine hK _ ?_; clear hK K; refine Run.nq ?_
  refine Run.keep [0, 1, 2, 6, 7, 8, 9, 10, 11, 12, 13, 14, 15] ?_; simp only [AK, Nat.reduceBEq]
  refine Run.nq ?_; refine Run.regionW hC (fun K hK => ?_); simp only [AW7, simprocAttr, hX]; (repeat (with_reducible refine And.intro ?_ ?_); exact vc0)
  refine .inl (FunA.callG hP hT (c_eqIntSS (itvX c u v) (itvX c u v) (by have := itvX_len c u v; omega) (fun r hr => by have := itvX_rows c u v r hr; omega)) (fun _ => rfl) (fun _ => by simp only [AW7, simprocAttr]) ?_)
  (try simp only [AW7, simprocAttr, hX]); (repeat (with_reducible refine And.intro ?_ ?_); exact vc0)
  (repeat (with_reducible refine And.intro ?_ ?_); exact vc0); refine hK _ ?_; clear hK K; refine Run.nq ?_
  refine Run.keep [0, 1, 2, 6, 7, 8, 9, 10, 11, 12, 13, 14, 15, 99] ?_; simp only [AK, Nat.reduceBEq]
  refine Run.nq ?_; refine Run.condW (by simp only [AW7, simprocAttr, hX]; rfl) (by simp only [AW7, simprocAttr, hX]) ?_ ?_
  · intro hc
    exfalso
    simp [iota_length, sumL_iotaR] at hc <;> omega
  intro hc0; clear hc0
  refine Run.nq ?_; refine Run.regionW hC (fun K hK => ?_); simp only [AW7, simprocAttr, hX]; (repeat (with_reducible refine And.intro ?_ ?_); exact vc0); refine hK _ ?_; clear hK K; refine Run.nq ?_
  refine Run.keep [0, 1, 2, 6, 7, 8, 9, 10, 11, 12, 13, 14, 15, 16] ?_; simp only [AK, Nat.reduceBEq]
  refine Run.nq ?_; refine Run.regionW hC (fun K hK => ?_); simp only [AW7, simprocAttr, hX]; (repeat (with_reducible refine And.intro ?_ ?_); exact vc0)
  refine FunO.callMat hP hT (c_markIntSS hs4 (itvX c u v) 1 (by have := itvX_len c u v; omega) (by have := sumL_le (itvX_len c u v) (itvX_rows c u v); omega) true) 7 0 (by simp only [AW7, simprocAttr]; rfl) (by simp) (by simp only [AW7, simprocAttr]) ?_
  rintro rs o o2 ⟨rfl, h⟩; obtain ⟨rfl, rfl⟩ := List.cons.inj h
  (try simp only [AW7, simprocAttr, hX]); (repeat (with_reducible refine And.intro ?_ ?_); exact vc0)
  (repeat (with_reducible refine And.intro ?_ ?_); exact vc0); refine hK _ ?_; clear hK K; refine Run.nq ?_
  refine Run.keep [0, 1, 2, 6, 7, 8, 9, 10, 11, 12, 13, 14, 15, 16] ?_; simp only [AK, Nat.reduceBEq]
  refine Run.nq ?_; refine Run.regionW hC (fun K hK => ?_); simp only [AW7, simprocAttr, hX]; (repeat (with_reducible refine And.intro ?_ ?_); exact vc0); refine hK _ ?_; clear hK K; refine Run.nq ?_
  refine Run.keep [0, 1, 2, 6, 7, 8, 9, 10, 11, 12, 13, 14, 15, 16, 17] ?_; simp only [AK, Nat.reduceBEq]
  refine Run.nq ?_; refine Run.regionW hC (fun K hK => ?_); simp only [AW7, simprocAttr, hX]; (repeat (with_reducible refine And.intro ?_ ?_); exact vc0)
  refine FunA.callW hP hT (c_heldIotaR 1 (itvX c u v) (by have := itvX_len c u v; omega) (fun r hr => by have := itvX_rows c u v r hr; omega) (by have := sumL_le (itvX_len c u v) (itvX_rows c u v); omega)) (by simp only [AW7, simprocAttr]) ?_
  rintro rs o ⟨rfl, rfl⟩
  (try simp only [AW7, simprocAttr, hX]); (repeat (with_reducible refine And.intro ?_ ?_); exact vc0)
  (repeat (with_reducible refine And.intro ?_ ?_); exact vc0); refine hK _ ?_; clear hK K; refine Run.nq ?_
  refine Run.keep [0, 1, 2, 6, 7, 8, 9, 10, 11, 12, 13, 14, 15, 16, 17] ?_; simp only [AK, Nat.reduceBEq]
  refine Run.nq ?_; refine Run.regionW hC (fun K hK => ?_); simp only [AW7, simprocAttr, hX]; (repeat (with_reducible refine And.intro ?_ ?_); exact vc0); refine hK _ ?_; clear hK K; refine Run.nq ?_
  refine Run.keep [0, 1, 2, 6, 7, 8, 9, 10, 11, 12, 13, 14, 15, 16, 17, 107] ?_; simp only [AK, Nat.reduceBEq]
  refine Run.nq ?_; refine Run.condW (by simp only [AW7, simprocAttr, hX]; rfl) (by simp only [AW7, simprocAttr, hX]) ?_ ?_
  · intro hc
    exfalso
    simp [iota_length, sumL_iotaR] at hc <;> omega
  intro hc0; clear hc0
  refine Run.nq ?_; refine Run.regionW hC (fun K hK => ?_); simp only [AW7, simprocAttr, hX]; (repeat (with_reducible refine And.intro ?_ ?_); exact vc0); refine hK _ ?_; clear hK K; refine Run.nq ?_
  refine Run.keep [0, 1, 2, 6, 7, 8, 9, 10, 11, 12, 13, 14, 15, 16, 17, 110] ?_; simp only [AK, Nat.reduceBEq]
  refine Run.nq ?_; refine Run.condW (by simp only [AW7, simprocAttr, hX]; rfl) (by simp only [AW7, simprocAttr, hX]) ?_ ?_
  · intro hc
    exfalso
    simp [iota_length, sumL_iotaR] at hc <;> omega
  intro hc0; clear hc0
  refine Run.nq ?_; refine Run.regionW hC (fun K hK => ?_); simp only [AW7, simprocAttr, hX]; (repeat (with_reducible refine And.intro ?_ ?_); exact vc0)
  refine FunA.callW hP hT (c_toIntSS c hcn hcr) (by simp only [AW7, simprocAttr]) ?_
  rintro rs o ⟨rfl, hs6, hs6l, rfl⟩
  (try simp only [AW7, simprocAttr, hX]); (repeat (with_reducible refine And.intro ?_ ?_); exact vc0)
  refine FunA.callW hP hT (c_toIntS u hu) (by simp only [AW7, simprocAttr]) ?_
  rintro rs o ⟨rfl, rfl⟩
  (try simp only [AW7, simprocAttr, hX]); (repeat (with_reducible refine And.intro ?_ ?_); exact vc0)
  refine FunA.callW hP hT (c_toIntS v hv) (by simp only [AW7, simprocAttr]) ?_
  rintro rs o ⟨rfl, rfl⟩
  (try simp only [AW7, simprocAttr, hX]); (repeat (with_reducible refine And.intro ?_ ?_); exact vc0)
  refine FunA.callW hP hT (c_impl_IntervalOf c u v hcn) (by simp only [AW7, simprocAttr]) ?_
  rintro rs o ⟨rfl, hs7, hs7l, rfl⟩
  (try simp only [AW7, simprocAttr, hX]); (repeat (with_reducible refine And.intro ?_ ?_); exact vc0)
  (repeat (with_reducible refine And.intro ?_ ?_); exact vc0); refine hK _ ?_; clear hK K; refine Run.nq ?_
  refine Run.keep [0, 1, 2, 6, 7, 8, 9, 10, 11, 12, 13, 14, 15, 16, 17, 18, 19] ?_; simp only [AK, Nat.reduceBEq]
  refine Run.nq ?_; refine Run.regionW hC (fun K hK => ?_); simp only [AW7, simprocAttr, hX]; (repeat (with_reducible refine And.intro ?_ ?_); exact vc0)
  refine FunA.callW hP hT (c_eqIntSS (itvX c u v) (itvX c u v) (by have := itvX_len c u v; omega) (fun r hr => by have := itvX_rows c u v r hr; omega)) (by simp only [AW7, simprocAttr]) ?_
  rintro rs o ⟨rfl, rfl⟩
  (try simp only [AW7, simprocAttr, hX]); (repeat (with_reducible refine And.intro ?_ ?_); exact vc0)
  (repeat (with_reducible refine And.intro ?_ ?_); exact vc0); refine hK _ ?_; clear hK K; refine Run.nq ?_
  refine Run.keep [0, 1, 2, 6, 7, 8, 9, 10, 11, 12, 13, 14, 15, 16, 17, 18, 19, 129] ?_; simp only [AK, Nat.reduceBEq]
  refine Run.nq ?_; refine Run.condW (by simp only [AW7, simprocAttr, hX]; rfl) (by simp only [AW7, simprocAttr, hX]) ?_ ?_
  · intro hc
    exfalso
    simp [iota_length, sumL_iotaR] at hc <;> omega
  intro hc0; clear hc0
  refine Run.nq ?_; refine Run.regionW hC (fun K hK => ?_); simp only [AW7, simprocAttr, hX]; (repeat (with_reducible refine And.intro ?_ ?_); exact vc0); refine hK _ ?_; clear hK K; refine Run.nq ?_
  refine Run.keep [0, 1, 2, 6, 7, 8, 9, 10, 11, 12, 13, 14, 15, 16, 17, 18, 19] ?_; simp only [AK, Nat.reduceBEq]
  refine Run.nq ?_; refine Run.regionW hC (fun K hK => ?_); simp only [AW7, simprocAttr, hX]; (repeat (with_reducible refine And.intro ?_ ?_); exact vc0)
  refine FunA.callW hP hT (c_heldIotaR 1 (itvX c u v) (by have := itvX_len c u v; omega) (fun r hr => by have := itvX_rows c u v r hr; omega) (by have := sumL_le (itvX_len c u v) (itvX_rows c u v); omega)) (by simp only [AW7, simprocAttr]) ?_
  rintro rs o ⟨rfl, rfl⟩
  (try simp only [AW7, simprocAttr, hX]); (repeat (with_reducible refine And.intro ?_ ?_); exact vc0)
  (repeat (with_reducible refine And.intro ?_ ?_); exact vc0); refine hK _ ?_; clear hK K; refine Run.nq ?_
  refine Run.keep [0, 1, 2, 6, 7, 8, 9, 10, 11, 12, 13, 14, 15, 16, 17, 18, 19] ?_; simp only [AK, Nat.reduceBEq]
  refine Run.nq ?_; refine Run.regionW hC (fun K hK => ?_); simp only [AW7, simprocAttr, hX]; (repeat (with_reducible refine And.intro ?_ ?_); exact vc0); refine hK _ ?_; clear hK K; refine Run.nq ?_
  refine Run.keep [0, 1, 2, 6, 7, 8, 9, 10, 11, 12, 13, 14, 15, 16, 17, 18, 19, 134] ?_; simp only [AK, Nat.reduceBEq]
  refine Run.nq ?_; refine Run.condW (by simp only [AW7, simprocAttr, hX]; rfl) (by simp only [AW7, simprocAttr, hX]) ?_ ?_
  · intro hc
    exfalso
    simp [iota_length, sumL_iotaR] at hc <;> omega
  intro hc0; clear hc0
  refine Run.nq ?_; refine Run.regionW hC (fun K hK => ?_); simp only [AW7, simprocAttr, hX]; (repeat (with_reducible refine And.intro ?_ ?_); exact vc0); refine hK _ ?_; clear hK K; refine Run.nq ?_
  refine Run.keep [0, 1, 2, 6, 7, 8, 9, 10, 11, 12, 13, 14, 15, 16, 17, 18, 19, 137] ?_; simp only [AK, Nat.reduceBEq]
  refine Run.nq ?_; refine Run.condW (by simp only [AW7, simprocAttr, hX]; rfl) (by simp only [AW7, simprocAttr, hX]) ?_ ?_
  · intro hc
    exfalso
    simp [iota_length, sumL_iotaR] at hc <;> omega
  intro hc0; clear hc0
  refine Run.nq ?_; refine Run.regionW hC (fun K hK => ?_); simp only [AW7, simprocAttr, hX]; (repeat (with_reducible refine And.intro ?_ ?_); exact vc0); refine hK _ ?_; clear hK K; refine Run.nq ?_
  refine Run.keep [0, 1, 2, 6, 7, 8, 9, 10, 11, 12, 13, 14, 15, 16, 17, 18, 19] ?_; simp only [AK, Nat.reduceBEq]
  refine Run.retW [6] (by decide) (by rw [hfn]; rfl) (by simp only [AW7, simprocAttr, hX]; rfl) (by simp only [AW7, simprocAttr, hX]) (hfin _ _ rfl rfl ?_)
  rfl
end Go.Proofs.Ytdhfonblpbpmmaa

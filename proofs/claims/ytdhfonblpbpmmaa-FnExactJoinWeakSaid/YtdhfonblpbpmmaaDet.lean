/- Sets of points, matrices of sets of points, determinants: what the functions of both sides do. -/
import Derived.Test.YtdhfonblpbpmmaaWords4
import Derived.Test.YtdhfonblpbpmmaaSets
import Derived.Test.YtdhfonblpbpmmaaFinite
set_option linter.unusedVariables false
set_option linter.unusedSimpArgs false
namespace Go.Proofs.Ytdhfonblpbpmmaa
open Go Go.Aw Go.Cox

/-! ### Sets as bits -/
def setM (k i : Nat) : List Int := ((List.range i).filter fun j => k.testBit j).map Int.ofNat
theorem setM_succ (k i : Nat) : setM k (i + 1) = if k.testBit i then setM k i ++ [(i : Int)] else setM k i := by
  simp only [setM, List.range_succ, List.filter_append, List.map_append]
  cases h : k.testBit i <;> simp [h]
theorem setM_len (k i : Nat) : (setM k i).length ≤ i := by
  simp only [setM, List.length_map]
  have := List.length_filter_le (fun j => k.testBit j) (List.range i)
  simpa using this
theorem setM_end : ∀ k : Nat, k < 16 → ∀ i, i ≤ 4 → k < 2 ^ i → setM k i = setL k := by decide
theorem setL_ne : ∀ k : Nat, k < 16 → 1 ≤ k → setL k ≠ [] := by decide
theorem bit_and : ∀ k : Nat, k < 16 → ∀ i, i < 4 → (andI .i64 ((k : Int) / 2 ^ min i IntKind.i64.bits) 1 == 1) = k.testBit i := by decide
theorem shr_pos : ∀ k : Nat, k < 16 → ∀ i, i ≤ 4 → (decide (0 < (k : Int) / 2 ^ min i IntKind.i64.bits) = decide (2 ^ i ≤ k)) := by decide

theorem c_impl_setOf (k : Nat) (hk : k < 16) : FunA B 86 [.int .i64 k] (fun rs o => rs = [.own 0 0] ∧ o = [.arr .int (setL k) 0 true]) := by
  refine FunA.walk B_ok (fn := Try.f86) (fun vs w => Try.call86 vs w) Try.func86 rfl (by rw [Try.ntmps86]; simp) (fun C hC hP hT hΓ hbt hfn hpin hfin => ?_); have hX := BX; rw [← hΓ, ← hbt.1, ← hbt.2] at hX; rw [Try.ntmps86]; simp only [AW6, simprocAttr, hX]
  refine Run.nq ?_; refine Run.regionW hC (fun K hK => ?_); simp only [AW6, simprocAttr, hX]; (repeat (with_reducible refine And.intro ?_ ?_); exact vc0); refine hK _ ?_; clear hK K; refine Run.nq ?_
  refine Run.nq ?_; refine Run.regionW hC (fun K hK => ?_); simp only [AW6, simprocAttr, hX]; (repeat (with_reducible refine And.intro ?_ ?_); exact vc0); refine hK _ ?_; clear hK K; refine Run.nq ?_
  refine Run.nq ?_; refine Run.regionW hC (fun K hK => ?_); simp only [AW6, simprocAttr, hX]; (repeat (with_reducible refine And.intro ?_ ?_); exact vc0); refine hK _ ?_; clear hK K; refine Run.nq ?_
  refine Run.loopI (X := Nat) (fun i => ⟨22, [(0, true, .v (.int .i64 (k))), (2, true, .v (.nils)), (3, true, .v (.own 0 0)), (4, true, .v (.int .i64 (i)))], [.arr .int ((setM k i)) 0 true]⟩) (fun i => i ≤ 4) (fun i => 4 - i) (0) (Nat.zero_le _) ?_ ?_
  · exact Le.sub (by first | rfl | simp) (by simp only [AW6, simprocAttr, hX]; try simp <;> try (first | rfl | exact ⟨rfl, rfl⟩ | exact ⟨rfl, rfl, rfl⟩))
  rintro i hi ih
  try simp only []
  have hsl := setM_len k i
  have h1 := shr_pos k hk i hi
  refine Run.nq ?_; refine Run.regionW hC (fun K hK => ?_); simp only [AW6, simprocAttr, hX]; (repeat (with_reducible refine And.intro ?_ ?_); exact vc0); refine hK _ ?_; clear hK K; refine Run.nq ?_
  refine Run.nq ?_; refine Run.condW (by simp only [AW6, simprocAttr, hX]; rfl) (by simp only [AW6, simprocAttr, hX]) ?_ ?_
  · intro hc
    rw [h1] at hc
    have hc : 2 ^ i ≤ k := by simpa using hc
    have h4 : i < 4 := by
      rcases Nat.lt_or_ge i 4 with h | h
      · exact h
      · have : i = 4 := by omega
        subst this; omega
    have h2 := bit_and k hk i h4
    have h3 := setM_succ k i
    refine Run.nq ?_; refine Run.regionW hC (fun K hK => ?_); simp only [AW6, simprocAttr, hX]; (repeat (with_reducible refine And.intro ?_ ?_); exact vc0); refine hK _ ?_; clear hK K; refine Run.nq ?_
    refine Run.nq ?_; refine Run.condW (by simp only [AW6, simprocAttr, hX]; rfl) (by simp only [AW6, simprocAttr, hX]) ?_ ?_
    · intro hb
      rw [h2] at hb
      rw [hb, if_pos rfl] at h3
      refine Run.nq ?_; refine Run.regionW hC (fun K hK => ?_); simp only [AW6, simprocAttr, hX]; (repeat (with_reducible refine And.intro ?_ ?_); exact vc0); refine hK _ ?_; clear hK K; refine Run.nq ?_
      refine Run.nq ?_; refine Run.regionW hC (fun K hK => ?_); simp (disch := omega) only [wrap_id, AW6, simprocAttr, hX]; (repeat (with_reducible refine And.intro ?_ ?_); exact vc0); refine hK _ ?_; clear hK K; refine Run.nq ?_
      refine Run.reK hpin [0, 2, 3, 4] [0] (by decide) (by simp) ?_; simp only [AR, AW6, simprocAttr]
      refine Run.le ?_ (ih (i + 1) (by omega) (by (try simp only [List.length_append, List.length_cons, List.length_nil]); omega))
      exact Le.sub (by first | rfl | (simp only [← h3]; done) | (rw [← h3]; rfl)) (by simp only [AW6, simprocAttr]; try simp)
    · intro hb
      rw [h2] at hb
      rw [hb] at h3
      refine Run.nq ?_; refine Run.regionW hC (fun K hK => ?_); simp (disch := omega) only [wrap_id, AW6, simprocAttr, hX]; (repeat (with_reducible refine And.intro ?_ ?_); exact vc0); refine hK _ ?_; clear hK K; refine Run.nq ?_
      refine Run.le ?_ (ih (i + 1) (by omega) (by (try simp only [List.length_append, List.length_cons, List.length_nil]); omega))
      exact Le.sub (by first | rfl | (simp only [h3]; done) | (rw [h3]; rfl)) (by simp only [AW6, simprocAttr]; try simp)
  · intro hc
    rw [h1] at hc
    have hc : k < 2 ^ i := by simpa using hc
    refine Run.exit rfl ?_; refine Run.nq ?_
    refine Run.nq ?_; refine Run.regionW hC (fun K hK => ?_); simp only [AW6, simprocAttr, hX]; (repeat (with_reducible refine And.intro ?_ ?_); exact vc0); refine hK _ ?_; clear hK K; refine Run.nq ?_
    rw [setM_end k hk i hi hc]
    refine Run.retW [2] (by decide) (by rw [hfn]; rfl) (by simp only [AW6, simprocAttr, hX]; rfl) (by simp only [AW6, simprocAttr, hX]) (hfin _ _ rfl rfl ?_)
    exact ⟨rfl, rfl⟩
end Go.Proofs.Ytdhfonblpbpmmaa

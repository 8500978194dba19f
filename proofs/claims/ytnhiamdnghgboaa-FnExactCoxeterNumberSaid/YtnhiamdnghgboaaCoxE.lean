/- The word of all points. -/
import Derived.Test.YtnhiamdnghgboaaSets
set_option linter.unusedVariables false
set_option linter.unusedSimpArgs false
namespace Go.Proofs.Ytnhiamdnghgboaa
open Go Go.Aw

/-- 0, 1, .., n - 1 -/
def upto (n : Nat) : List Int := (List.range n).map fun (i : Nat) => (i : Int)
theorem upto_succ (n : Nat) : upto n ++ [(n : Int)] = upto (n + 1) := by simp [upto, List.range_succ]
theorem upto_length (n : Nat) : (upto n).length = n := by simp [upto]
noncomputable def coxE (c : List (List Int)) : List Int := if isC c then upto c.length else []
theorem coxE_le (c : List (List Int)) : (coxE c).length ≤ 4 := by
  unfold coxE
  split
  · rename_i h; rw [upto_length]; exact (isC_iff.1 h).2.1
  · simp

theorem c_impl_CoxeterElement (c : List (List Int)) (hc : c.length ≤ 1048576) : FunA B 65 [.sl false (.row false) c] (fun rs o => rs = [.own 0 0, .bool (isC c)] ∧ o = [.arr .int (coxE c) 0 true]) := by
  refine FunA.walk B_ok (fn := Try.f65) (fun vs w => Try.call65 vs w) Try.func65 rfl (by rw [Try.ntmps65]; simp) (fun C hC hP hT hΓ hbt hfn hpin hfin => ?_); have hX := BX; rw [← hΓ, ← hbt] at hX; rw [Try.ntmps65]; simp only [AW4, simprocAttr, hX]
  refine Run.nq ?_; refine Run.regionW hC (fun K hK => ?_); simp only [AW4, simprocAttr, hX]; (repeat (with_reducible refine And.intro ?_ ?_); exact vc0); refine hK _ ?_; clear hK K; refine Run.nq ?_
  refine Run.nq ?_; refine Run.regionW hC (fun K hK => ?_); simp only [AW4, simprocAttr, hX]; (repeat (with_reducible refine And.intro ?_ ?_); exact vc0)
  refine FunA.callW hP hT (c_impl_IsCartan c) (by simp only [AW4, simprocAttr]) ?_
  rintro rs o ⟨rfl, rfl⟩
  (try simp only [AW4, simprocAttr, hX]); (repeat (with_reducible refine And.intro ?_ ?_); exact vc0)
  (repeat (with_reducible refine And.intro ?_ ?_); exact vc0); refine hK _ ?_; clear hK K; refine Run.nq ?_
  refine Run.nq ?_; refine Run.condW (by simp only [AW4, simprocAttr, hX]; rfl) (by simp only [AW4, simprocAttr, hX]) ?_ ?_
  · intro hb
    have hb : isC c = false := by simpa using hb
    refine Run.nq ?_; refine Run.regionW hC (fun K hK => ?_); simp only [AW4, simprocAttr, hX]; (repeat (with_reducible refine And.intro ?_ ?_); exact vc0); refine hK _ ?_; clear hK K; refine Run.nq ?_
    refine Run.retW [2, 3] (by decide) (by rw [hfn]; rfl) (by simp only [AW4, simprocAttr, hX]; rfl) (by simp only [AW4, simprocAttr, hX]) (hfin _ _ rfl rfl ?_)
    simp [coxE, hb]
  · intro hb
    have hb : isC c = true := by simpa using hb
    refine Run.nq ?_; refine Run.regionW hC (fun K hK => ?_); simp only [AW4, simprocAttr, hX]; (repeat (with_reducible refine And.intro ?_ ?_); exact vc0); refine hK _ ?_; clear hK K; refine Run.nq ?_
    refine Run.nq ?_; refine Run.regionW hC (fun K hK => ?_); simp only [AW4, simprocAttr, hX]; (repeat (with_reducible refine And.intro ?_ ?_); exact vc0); refine hK _ ?_; clear hK K; refine Run.nq ?_
    refine Run.keep [0, 2, 3, 4, 12, 13] ?_; simp only [AK, Nat.reduceBEq]
    refine Run.loopI (X := Nat) (fun i => ⟨22, [(0, true, .v (.sl false (.row false) c)), (2, true, .v .nils), (3, true, .v (.bool false)), (4, true, .v (.own 0 i)), (12, true, .v (.int .i64 c.length)), (13, true, .v (.int .i64 i))], [.arr .int (upto i) i true]⟩) (fun i => i ≤ c.length) (fun i => c.length - i) 0 (Nat.zero_le _) ?_ ?_
    · exact Le.sub (by rfl) (by simp only [AW4, simprocAttr, hX]; try simp)
    rintro i hi ih
    have hll := upto_length i
    refine Run.nq ?_; refine Run.regionW hC (fun K hK => ?_); simp only [AW4, simprocAttr, hX]; (repeat (with_reducible refine And.intro ?_ ?_); exact vc0); refine hK _ ?_; clear hK K; refine Run.nq ?_
    refine Run.nq ?_; refine Run.condW (by simp only [AW4, simprocAttr, hX]; rfl) (by simp only [AW4, simprocAttr, hX]) ?_ ?_
    · intro hc2
      have hc2 : i < c.length := by simpa using hc2
      refine Run.nq ?_; refine Run.regionW hC (fun K hK => ?_); simp only [AW4, simprocAttr, hX]; (repeat (with_reducible refine And.intro ?_ ?_); exact vc0); refine hK _ ?_; clear hK K; refine Run.nq ?_
      refine Run.nq ?_; refine Run.regionW hC (fun K hK => ?_); simp only [AW4, simprocAttr, hX]; (repeat (with_reducible refine And.intro ?_ ?_); exact vc0); refine hK _ ?_; clear hK K; refine Run.nq ?_
      refine Run.nq ?_; refine Run.regionW hC (fun K hK => ?_); simp (disch := omega) only [wrap_id, AW4, simprocAttr, hX]; (repeat (with_reducible refine And.intro ?_ ?_); exact vc0); refine hK _ ?_; clear hK K; refine Run.nq ?_
      refine Run.le ?_ (ih (i + 1) hc2 (by omega))
      refine Le.cut0 hpin [_] (by rw [← upto_succ]; rfl) ?_ rfl
      simp only [AW4, simprocAttr]; try simp
    · intro hc2
      have hc2 : i = c.length := by simp at hc2; omega
      subst hc2
      refine Run.exit rfl ?_; refine Run.nq ?_
      refine Run.nq ?_; refine Run.regionW hC (fun K hK => ?_); simp only [AW4, simprocAttr, hX]; (repeat (with_reducible refine And.intro ?_ ?_); exact vc0); refine hK _ ?_; clear hK K; refine Run.nq ?_
      refine Run.le (Le.re (obs' := [.arr .int (coxE c) 0 true]) hpin [0] [(2, true, .own 0 0), (3, true, .bool true)] rfl (by simp [leOs, leO_arr, oAt, coxE, hb]) (by refine ⟨⟨_, rfl, ?_⟩, ⟨_, rfl, ?_⟩, trivial⟩ <;> simp [leAV, oAt, genO])) ?_
      simp only [frV_cons, frV_nil]
      refine Run.retW [2, 3] (by decide) (by rw [hfn]; rfl) (by simp only [AW4, simprocAttr, hX]; rfl) (by simp only [AW4, simprocAttr, hX]) (hfin _ _ rfl rfl ?_)
      simp [hb]

theorem c_spec_CoxeterElement (c : List (List Int)) (hc : c.length ≤ 1048576) : FunA B 61 [.sl false (.row false) c] (fun rs o => rs = [.own 0 0, .bool (isC c)] ∧ o = [.arr .int (coxE c) 0 true]) := by
  refine FunA.walk B_ok (fn := Try.f61) (fun vs w => Try.call61 vs w) Try.func61 rfl (by rw [Try.ntmps61]; simp) (fun C hC hP hT hΓ hbt hfn hpin hfin => ?_); have hX := BX; rw [← hΓ, ← hbt] at hX; rw [Try.ntmps61]; simp only [AW4, simprocAttr, hX]
  refine Run.nq ?_; refine Run.regionW hC (fun K hK => ?_); simp only [AW4, simprocAttr, hX]; (repeat (with_reducible refine And.intro ?_ ?_); exact vc0); refine hK _ ?_; clear hK K; refine Run.nq ?_
  refine Run.nq ?_; refine Run.regionW hC (fun K hK => ?_); simp only [AW4, simprocAttr, hX]; (repeat (with_reducible refine And.intro ?_ ?_); exact vc0); refine hK _ ?_; clear hK K; refine Run.nq ?_
  refine Run.nq ?_; refine Run.regionW hC (fun K hK => ?_); simp only [AW4, simprocAttr, hX]; (repeat (with_reducible refine And.intro ?_ ?_); exact vc0); refine hK _ ?_; clear hK K; refine Run.nq ?_
  refine Run.loopI (X := Nat) (fun i => ⟨24, [(0, true, .v (.sl false (.row false) c)), (2, true, .v .nils), (3, true, .v (.bool false)), (4, true, .v (.own 0 i)), (5, true, .v (.int .i64 i))], [.arr .int (upto i) i true]⟩) (fun i => i = 0 ∨ (i ≤ c.length ∧ isC c = true)) (fun i => c.length - i) 0 (.inl rfl) ?_ ?_
  · exact Le.sub (by rfl) (by simp only [AW4, simprocAttr, hX]; try simp)
  rintro i hi ih
  have hll := upto_length i
  refine Run.nq ?_; refine Run.regionW hC (fun K hK => ?_); simp only [AW4, simprocAttr, hX]; (repeat (with_reducible refine And.intro ?_ ?_); exact vc0)
  refine .inl (FunA.callG hP hT (c_spec_IsCartan c) (fun _ => rfl) (fun _ => by simp only [AW4, simprocAttr]) ?_)
  (try simp only [AW4, simprocAttr, hX]); (repeat (with_reducible refine And.intro ?_ ?_); exact vc0)
  (repeat (with_reducible refine And.intro ?_ ?_); exact vc0); refine hK _ ?_; clear hK K; refine Run.nq ?_
  refine Run.keep [0, 2, 3, 4, 5, 14] ?_; simp only [AK, Nat.reduceBEq]
  refine Run.nq ?_; refine Run.condW (by simp only [AW4, simprocAttr, hX]; rfl) (by simp only [AW4, simprocAttr, hX]) ?_ ?_
  · intro hb
    have hb : i < c.length ∧ isC c = true := by
      by_cases h : i < c.length
      · simp [h] at hb; exact ⟨h, hb⟩
      · simp [h] at hb
    refine Run.nq ?_; refine Run.regionW hC (fun K hK => ?_); simp (disch := omega) only [wrap_id, AW4, simprocAttr, hX]; (repeat (with_reducible refine And.intro ?_ ?_); exact vc0); refine hK _ ?_; clear hK K; refine Run.nq ?_
    refine Run.nq ?_; refine Run.regionW hC (fun K hK => ?_); simp (disch := omega) only [wrap_id, AW4, simprocAttr, hX]; (repeat (with_reducible refine And.intro ?_ ?_); exact vc0); refine hK _ ?_; clear hK K; refine Run.nq ?_
    refine Run.le ?_ (ih (i + 1) (.inr ⟨hb.1, hb.2⟩) (by omega))
    refine Le.cut0 hpin [_] (by rw [← upto_succ]; rfl) ?_ rfl
    simp only [AW4, simprocAttr]; try simp
  · intro hb
    have hcox : upto i = coxE c := by
      unfold coxE
      by_cases h : i < c.length
      · simp [h] at hb
        rcases hi with rfl | ⟨_, h2⟩
        · simp [hb, upto]
        · rw [h2] at hb; cases hb
      · rcases hi with rfl | ⟨h1, h2⟩
        · have hc0 : isC c = false := isC_false fun k => by have := k.1; omega
          simp [hc0, upto]
        · rw [if_pos h2, show i = c.length from by omega]
    refine Run.exit rfl ?_; refine Run.nq ?_
    refine Run.nq ?_; refine Run.regionW hC (fun K hK => ?_); simp only [AW4, simprocAttr, hX]; (repeat (with_reducible refine And.intro ?_ ?_); exact vc0)
    refine FunA.callW hP hT (c_spec_IsCartan c) (by simp only [AW4, simprocAttr]) ?_
    rintro rs o ⟨rfl, rfl⟩
    (try simp only [AW4, simprocAttr, hX]); (repeat (with_reducible refine And.intro ?_ ?_); exact vc0)
    (repeat (with_reducible refine And.intro ?_ ?_); exact vc0); refine hK _ ?_; clear hK K; refine Run.nq ?_
    refine Run.le (Le.re (obs' := [.arr .int (coxE c) 0 true]) hpin [0] [(2, true, .own 0 0), (3, true, .bool (isC c))] rfl (by simp [leOs, leO_arr, oAt, hcox]) (by refine ⟨⟨_, rfl, ?_⟩, ⟨_, rfl, ?_⟩, trivial⟩ <;> simp [leAV, oAt, genO])) ?_
    simp only [frV_cons, frV_nil]
    refine Run.retW [2, 3] (by decide) (by rw [hfn]; rfl) (by simp only [AW4, simprocAttr, hX]; rfl) (by simp only [AW4, simprocAttr, hX]) (hfin _ _ rfl rfl ?_)
    exact ⟨rfl, rfl⟩
end Go.Proofs.Ytnhiamdnghgboaa

/- Drawn matrices with words. -/
import Derived.Test.YtojcdgdbffmlpaaGreatB10
import Derived.Test.YtojcdgdbffmlpaaGreatB12
set_option linter.unusedVariables false
set_option linter.unusedSimpArgs false
namespace Go.Proofs.YtojcdgdbffmlpaaGreat
open Go Go.Aw
theorem c_l5Any (code : List Int) (hl : code.length ≤ 1048576) : FunA B 127 [.sl false .byte code] (fun rs o => ∃ c w, (1 ≤ c.length ∧ c.length ≤ 5) ∧ w.length ≤ 10 ∧ rs = [.sl true (.row true) c, .sl true .int w] ∧ o = []) := by
  refine FunA.walk B_ok (fn := Tryz.f127) (fun vs w => Tryz.call127 vs w) Tryz.func127 rfl (by rw [Tryz.ntmps127]; simp) (fun C hC hP hT hΓ hbt hfn hpin hfin => ?_); have hX := BX; rw [← hΓ, ← hbt.1, ← hbt.2] at hX; rw [Tryz.ntmps127]; simp only [AW7, simprocAttr, hX]
  refine Run.nq ?_; refine Run.regionW hC (fun K hK => ?_); simp only [AW7, simprocAttr, hX]; (repeat (with_reducible refine And.intro ?_ ?_); exact vc0); refine hK _ ?_; clear hK K; refine Run.nq ?_
  refine Run.nq ?_; refine Run.regionW hC (fun K hK => ?_); simp only [AW7, simprocAttr, hX]; (repeat (with_reducible refine And.intro ?_ ?_); exact vc0)
  refine ACall.new hP (by omega) fun s => ?_
  (try simp only [AW7, simprocAttr, hX]); (repeat (with_reducible refine And.intro ?_ ?_); exact vc0)
  (repeat (with_reducible refine And.intro ?_ ?_); exact vc0); refine hK _ ?_; clear hK K; refine Run.nq ?_
  refine Run.nq ?_; refine Run.regionW hC (fun K hK => ?_); simp only [AW7, simprocAttr, hX]; (repeat (with_reducible refine And.intro ?_ ?_); exact vc0)
  refine FunO.callCur hP hT (c_l2Any s) 0 0 (by first | rfl | (simp only [AW7, simprocAttr]; done) | (simp only [AW7, simprocAttr]; rfl)) (by simp only [AW7, simprocAttr]) ?_
  rintro rs o' obs' ⟨c, g, nn, ⟨c1, c2⟩, rfl, rfl, ho⟩
  injection ho with ho1 ho2; subst ho1 ho2
  (try simp only [AW7, simprocAttr, hX]); (repeat (with_reducible refine And.intro ?_ ?_); exact vc0)
  (repeat (with_reducible refine And.intro ?_ ?_); exact vc0); refine hK _ ?_; clear hK K; refine Run.nq ?_
  refine Run.nq ?_; refine Run.regionW hC (fun K hK => ?_); simp only [AW7, simprocAttr, hX]; (repeat (with_reducible refine And.intro ?_ ?_); exact vc0)
  refine FunO.callCur hP hT (c_l5Word s c 9 (by omega) (by omega)) 0 0 (by first | rfl | (simp only [AW7, simprocAttr]; done) | (simp only [AW7, simprocAttr]; rfl)) (by simp only [AW7, simprocAttr]; decide) ?_
  rintro rs o' obs' ⟨w, nn, hw, hwl, rfl, rfl, ho⟩
  injection ho with ho1 ho2; subst ho1 ho2
  (try simp only [AW7, simprocAttr, hX]); (repeat (with_reducible refine And.intro ?_ ?_); exact vc0)
  (repeat (with_reducible refine And.intro ?_ ?_); exact vc0); refine hK _ ?_; clear hK K; refine Run.nq ?_
  refine Run.nq ?_; refine Run.regionW hC (fun K hK => ?_); simp only [AW7, simprocAttr, hX]; (repeat (with_reducible refine And.intro ?_ ?_); exact vc0)
  refine FunO.callCur hP hT (c_l1Once s 12 (by decide) (by decide)) 0 0 (by first | rfl | (simp only [AW7, simprocAttr]; done) | (simp only [AW7, simprocAttr]; rfl)) (by simp only [AW7, simprocAttr]) ?_
  rintro rs o' obs' ⟨x, rfl, ho⟩
  injection ho with ho1 ho2; subst ho1 ho2
  (try simp only [AW7, simprocAttr, hX]); (repeat (with_reducible refine And.intro ?_ ?_); exact vc0)
  (repeat (with_reducible refine And.intro ?_ ?_); exact vc0); refine hK _ ?_; clear hK K; refine Run.nq ?_
  refine Run.reK hpin [0, 4, 5, 6, 15] [0, 1, 2] (by decide) (by simp) ?_; simp only [AR, AW7, simprocAttr]
  refine Run.nq ?_; refine Run.condW (by simp only [AW7, simprocAttr, hX]; rfl) (by simp only [AW7, simprocAttr, hX]) ?_ ?_
  · intro _
    refine Run.nq ?_; refine Run.regionW hC (fun K hK => ?_); simp only [AW7, simprocAttr, hX]; (repeat (with_reducible refine And.intro ?_ ?_); exact vc0)
    refine FunO.callCur hP hT (c_l1PickInt s [-1, 4] (by decide) (by decide)) 0 0 (by first | rfl | (simp only [AW7, simprocAttr]; done) | (simp only [AW7, simprocAttr]; rfl)) (by simp only [AW7, simprocAttr]; first | done | decide | exact ⟨by decide, rfl⟩) ?_
    rintro rs o' obs' ⟨v, rfl, hv, ho⟩
    injection ho with ho1 ho2; subst ho1 ho2
    (try simp only [AW7, simprocAttr, hX]); (repeat (with_reducible refine And.intro ?_ ?_); exact vc0)
    (repeat (with_reducible refine And.intro ?_ ?_); exact vc0); refine hK _ ?_; clear hK K; refine Run.nq ?_
    refine Run.nq ?_; refine Run.regionW hC (fun K hK => ?_); simp only [AW7, simprocAttr, hX]; (repeat (with_reducible refine And.intro ?_ ?_); exact vc0); refine hK _ ?_; clear hK K; refine Run.nq ?_
    refine Run.reK hpin [2, 3] [1, 2] (by decide) (by simp) ?_; simp only [AR, AW7, simprocAttr]
    refine Run.letgoK 0 [2, 3] rfl ?_; simp only [AL, frV_cons, frV_nil, AW7, simprocAttr]
    refine Run.letgoK 1 [2, 3] rfl ?_; simp only [AL, frV_cons, frV_nil, AW7, simprocAttr]
    refine Run.reK hpin [2, 3] [] (by decide) (by simp) ?_; simp only [AR, AW7, simprocAttr]
    refine Run.retW [2, 3] (by decide) (by rw [hfn]; rfl) (by simp only [AW7, simprocAttr, hX]; rfl) (by simp only [AW7, simprocAttr, hX]) (hfin _ _ rfl rfl ?_)
    exact ⟨c, w ++ [v], ⟨c1, c2⟩, by simp; omega, rfl, rfl⟩
  intro _
  refine Run.nq ?_; refine Run.regionW hC (fun K hK => ?_); simp only [AW7, simprocAttr, hX]; (repeat (with_reducible refine And.intro ?_ ?_); exact vc0); refine hK _ ?_; clear hK K; refine Run.nq ?_
  refine Run.reK hpin [2, 3] [1, 2] (by decide) (by simp) ?_; simp only [AR, AW7, simprocAttr]
  refine Run.letgoK 0 [2, 3] rfl ?_; simp only [AL, frV_cons, frV_nil, AW7, simprocAttr]
  refine Run.letgoK 1 [2, 3] rfl ?_; simp only [AL, frV_cons, frV_nil, AW7, simprocAttr]
  refine Run.reK hpin [2, 3] [] (by decide) (by simp) ?_; simp only [AR, AW7, simprocAttr]
  refine Run.retW [2, 3] (by decide) (by rw [hfn]; rfl) (by simp only [AW7, simprocAttr, hX]; rfl) (by simp only [AW7, simprocAttr, hX]) (hfin _ _ rfl rfl ?_)
  exact ⟨c, w, ⟨c1, c2⟩, by omega, rfl, rfl⟩
theorem c_l11Small (code : List Int) (hl : code.length ≤ 1048576) : FunA B 120 [.sl false .byte code] (fun rs o => ∃ c w, (1 ≤ c.length ∧ c.length ≤ 5) ∧ w.length ≤ 7 ∧ rs = [.sl true (.row true) c, .sl true .int w] ∧ o = []) := by
  refine FunA.walk B_ok (fn := Tryz.f120) (fun vs w => Tryz.call120 vs w) Tryz.func120 rfl (by rw [Tryz.ntmps120]; simp) (fun C hC hP hT hΓ hbt hfn hpin hfin => ?_); have hX := BX; rw [← hΓ, ← hbt.1, ← hbt.2] at hX; rw [Tryz.ntmps120]; simp only [AW7, simprocAttr, hX]
  refine Run.nq ?_; refine Run.regionW hC (fun K hK => ?_); simp only [AW7, simprocAttr, hX]; (repeat (with_reducible refine And.intro ?_ ?_); exact vc0); refine hK _ ?_; clear hK K; refine Run.nq ?_
  refine Run.nq ?_; refine Run.regionW hC (fun K hK => ?_); simp only [AW7, simprocAttr, hX]; (repeat (with_reducible refine And.intro ?_ ?_); exact vc0)
  refine ACall.new hP (by omega) fun s => ?_
  (try simp only [AW7, simprocAttr, hX]); (repeat (with_reducible refine And.intro ?_ ?_); exact vc0)
  (repeat (with_reducible refine And.intro ?_ ?_); exact vc0); refine hK _ ?_; clear hK K; refine Run.nq ?_
  refine Run.nq ?_; refine Run.regionW hC (fun K hK => ?_); simp only [AW7, simprocAttr, hX]; (repeat (with_reducible refine And.intro ?_ ?_); exact vc0)
  refine FunO.callCur hP hT (c_l2Any s) 0 0 (by first | rfl | (simp only [AW7, simprocAttr]; done) | (simp only [AW7, simprocAttr]; rfl)) (by simp only [AW7, simprocAttr]) ?_
  rintro rs o' obs' ⟨c, g, nn, ⟨c1, c2⟩, rfl, rfl, ho⟩
  injection ho with ho1 ho2; subst ho1 ho2
  (try simp only [AW7, simprocAttr, hX]); (repeat (with_reducible refine And.intro ?_ ?_); exact vc0)
  (repeat (with_reducible refine And.intro ?_ ?_); exact vc0); refine hK _ ?_; clear hK K; refine Run.nq ?_
  refine Run.nq ?_; refine Run.regionW hC (fun K hK => ?_); simp only [AW7, simprocAttr, hX]; (repeat (with_reducible refine And.intro ?_ ?_); exact vc0)
  refine FunO.callCur hP hT (c_l5Word s c 7 (by omega) (by omega)) 0 0 (by first | rfl | (simp only [AW7, simprocAttr]; done) | (simp only [AW7, simprocAttr]; rfl)) (by simp only [AW7, simprocAttr]; decide) ?_
  rintro rs o' obs' ⟨w, nn, hw, hwl, rfl, rfl, ho⟩
  injection ho with ho1 ho2; subst ho1 ho2
  (try simp only [AW7, simprocAttr, hX]); (repeat (with_reducible refine And.intro ?_ ?_); exact vc0)
  (repeat (with_reducible refine And.intro ?_ ?_); exact vc0); refine hK _ ?_; clear hK K; refine Run.nq ?_
  refine Run.reK hpin [2, 3] [1, 2] (by decide) (by simp) ?_; simp only [AR, AW7, simprocAttr]
  refine Run.letgoK 0 [2, 3] rfl ?_; simp only [AL, frV_cons, frV_nil, AW7, simprocAttr]
  refine Run.letgoK 1 [2, 3] rfl ?_; simp only [AL, frV_cons, frV_nil, AW7, simprocAttr]
  refine Run.reK hpin [2, 3] [] (by decide) (by simp) ?_; simp only [AR, AW7, simprocAttr]
  refine Run.retW [2, 3] (by decide) (by rw [hfn]; rfl) (by simp only [AW7, simprocAttr, hX]; rfl) (by simp only [AW7, simprocAttr, hX]) (hfin _ _ rfl rfl ?_)
  exact ⟨c, w, ⟨c1, c2⟩, by omega, rfl, rfl⟩
theorem c_l15Two (code : List Int) (hl : code.length ≤ 1048576) : FunA B 118 [.sl false .byte code] (fun rs o => ∃ c u v, (1 ≤ c.length ∧ c.length ≤ 5) ∧ u.length ≤ 2 ∧ v.length ≤ 7 ∧ rs = [.sl true (.row true) c, .sl true .int u, .sl true .int v] ∧ o = []) := by
  refine FunA.walk B_ok (fn := Tryz.f118) (fun vs w => Tryz.call118 vs w) Tryz.func118 rfl (by rw [Tryz.ntmps118]; simp) (fun C hC hP hT hΓ hbt hfn hpin hfin => ?_); have hX := BX; rw [← hΓ, ← hbt.1, ← hbt.2] at hX; rw [Tryz.ntmps118]; simp only [AW7, simprocAttr, hX]
  refine Run.nq ?_; refine Run.regionW hC (fun K hK => ?_); simp only [AW7, simprocAttr, hX]; (repeat (with_reducible refine And.intro ?_ ?_); exact vc0); refine hK _ ?_; clear hK K; refine Run.nq ?_
  refine Run.nq ?_; refine Run.regionW hC (fun K hK => ?_); simp only [AW7, simprocAttr, hX]; (repeat (with_reducible refine And.intro ?_ ?_); exact vc0)
  refine ACall.new hP (by omega) fun s => ?_
  (try simp only [AW7, simprocAttr, hX]); (repeat (with_reducible refine And.intro ?_ ?_); exact vc0)
  (repeat (with_reducible refine And.intro ?_ ?_); exact vc0); refine hK _ ?_; clear hK K; refine Run.nq ?_
  refine Run.nq ?_; refine Run.regionW hC (fun K hK => ?_); simp only [AW7, simprocAttr, hX]; (repeat (with_reducible refine And.intro ?_ ?_); exact vc0)
  refine FunA.callW hP hT (c_l11Small code hl) (by simp only [AW7, simprocAttr]) ?_
  rintro rs o ⟨c, v, ⟨c1, c2⟩, hvl, rfl, rfl⟩
  (try simp only [AW7, simprocAttr, hX]); (repeat (with_reducible refine And.intro ?_ ?_); exact vc0)
  (repeat (with_reducible refine And.intro ?_ ?_); exact vc0); refine hK _ ?_; clear hK K; refine Run.nq ?_
  refine Run.reK hpin [0, 5, 6, 7] [0] (by decide) (by simp) ?_; simp only [AR, AW7, simprocAttr]
  refine Run.nq ?_; refine Run.regionW hC (fun K hK => ?_); simp only [AW7, simprocAttr, hX]; (repeat (with_reducible refine And.intro ?_ ?_); exact vc0); refine hK _ ?_; clear hK K; refine Run.nq ?_
  refine Run.nq ?_; refine Run.condW (by simp only [AW7, simprocAttr, hX]; rfl) (by simp only [AW7, simprocAttr, hX]) ?_ ?_
  · intro h
    have h : 5 < v.length := by rw [decide_eq_true_eq] at h; omega
    refine Run.nq ?_; refine Run.regionW hC (fun K hK => ?_); simp only [AW7, simprocAttr, hX]; (repeat (with_reducible refine And.intro ?_ ?_); exact vc0); refine hK _ ?_; clear hK K; refine Run.nq ?_
    refine Run.nq ?_; refine Run.regionW hC (fun K hK => ?_); simp only [AW7, simprocAttr, hX]; (repeat (with_reducible refine And.intro ?_ ?_); exact vc0)
    refine FunO.callCur hP hT (c_l5Word s c 2 (by omega) (by omega)) 0 0 (by first | rfl | (simp only [AW7, simprocAttr]; done) | (simp only [AW7, simprocAttr]; rfl)) (by simp only [AW7, simprocAttr]) ?_
    rintro rs o' obs' ⟨w, nn, hw, hwl, rfl, rfl, ho⟩
    injection ho with ho1 ho2; subst ho1 ho2
    (try simp only [AW7, simprocAttr, hX]); (repeat (with_reducible refine And.intro ?_ ?_); exact vc0)
    (repeat (with_reducible refine And.intro ?_ ?_); exact vc0); refine hK _ ?_; clear hK K; refine Run.nq ?_
    refine Run.reK hpin [2, 3, 4] [1] (by decide) (by simp) ?_; simp only [AR, AW7, simprocAttr]
    refine Run.letgoK 0 [2, 3, 4] rfl ?_; simp only [AL, frV_cons, frV_nil, AW7, simprocAttr]
    refine Run.reK hpin [2, 3, 4] [] (by decide) (by simp) ?_; simp only [AR, AW7, simprocAttr]
    refine Run.retW [2, 3, 4] (by decide) (by rw [hfn]; rfl) (by simp only [AW7, simprocAttr, hX]; rfl) (by simp only [AW7, simprocAttr, hX]) (hfin _ _ rfl rfl ?_)
    exact ⟨c, w, _, ⟨c1, c2⟩, hwl, by simp; omega, rfl, rfl⟩
  intro _
  refine Run.nq ?_; refine Run.regionW hC (fun K hK => ?_); simp only [AW7, simprocAttr, hX]; (repeat (with_reducible refine And.intro ?_ ?_); exact vc0)
  refine FunO.callCur hP hT (c_l5Word s c 2 (by omega) (by omega)) 0 0 (by first | rfl | (simp only [AW7, simprocAttr]; done) | (simp only [AW7, simprocAttr]; rfl)) (by simp only [AW7, simprocAttr]) ?_
  rintro rs o' obs' ⟨w, nn, hw, hwl, rfl, rfl, ho⟩
  injection ho with ho1 ho2; subst ho1 ho2
  (try simp only [AW7, simprocAttr, hX]); (repeat (with_reducible refine And.intro ?_ ?_); exact vc0)
  (repeat (with_reducible refine And.intro ?_ ?_); exact vc0); refine hK _ ?_; clear hK K; refine Run.nq ?_
  refine Run.reK hpin [2, 3, 4] [1] (by decide) (by simp) ?_; simp only [AR, AW7, simprocAttr]
  refine Run.letgoK 0 [2, 3, 4] rfl ?_; simp only [AL, frV_cons, frV_nil, AW7, simprocAttr]
  refine Run.reK hpin [2, 3, 4] [] (by decide) (by simp) ?_; simp only [AR, AW7, simprocAttr]
  refine Run.retW [2, 3, 4] (by decide) (by rw [hfn]; rfl) (by simp only [AW7, simprocAttr, hX]; rfl) (by simp only [AW7, simprocAttr, hX]) (hfin _ _ rfl rfl ?_)
  exact ⟨c, w, v, ⟨c1, c2⟩, hwl, hvl, rfl, rfl⟩
end Go.Proofs.YtojcdgdbffmlpaaGreat
namespace Go.Proofs.YtojcdgdbffmlpaaGreat
open Go Go.Aw
def delN (w : List Int) (k : Nat) (i : Nat) : List Int := (w.take i).take k ++ (w.take i).drop (k + 1)
theorem delN_snoc (w : List Int) (k i : Nat) (h : i < w.length) : delN w k (i + 1) = if i = k then delN w k i else delN w k i ++ [w.getD i 0] := by
  unfold delN
  have e : w.take (i + 1) = w.take i ++ [w.getD i 0] := by rw [getD_eq h, List.take_succ_eq_append_getElem h]
  have hl : (w.take i).length = i := by simp; omega
  rw [e, List.take_append, List.drop_append, hl]
  by_cases h1 : i = k
  · subst h1
    rw [if_pos rfl, Nat.sub_self, List.take_zero, List.append_nil, show i + 1 - i = 1 by omega]
    simp
  · rw [if_neg h1]
    by_cases h2 : i < k
    · rw [List.take_of_length_le (by simp; omega : [w.getD i 0].length ≤ k - i), List.drop_eq_nil_of_le (by omega : (w.take i).length ≤ k + 1), List.drop_eq_nil_of_le (by simp; omega : [w.getD i 0].length ≤ k + 1 - i)]
      simp
    · rw [show k - i = 0 by omega, show k + 1 - i = 0 by omega]
      simp
theorem delN_all (w : List Int) (k : Nat) : delN w k w.length = w.take k ++ w.drop (k + 1) := by simp [delN]
theorem c_spec_DeleteAt (w : List Int) (k : Nat) (hl : w.length ≤ 1048576) :
    FunA B 104 [.sl false .int w, .int .i64 k] (fun rs o => rs = [.own 0 0] ∧ o = [.arr .int (w.take k ++ w.drop (k + 1)) 0 true]) := by
  refine FunA.walk B_ok (fn := Tryz.f104) (fun vs w => Tryz.call104 vs w) Tryz.func104 rfl (by rw [Tryz.ntmps104]; simp) (fun C hC hP hT hΓ hbt hfn hpin hfin => ?_); have hX := BX; rw [← hΓ, ← hbt.1, ← hbt.2] at hX; rw [Tryz.ntmps104]; simp only [AW7, simprocAttr, hX]
  refine Run.nq ?_; refine Run.regionW hC (fun K hK => ?_); simp only [AW7, simprocAttr, hX]; (repeat (with_reducible refine And.intro ?_ ?_); exact vc0); refine hK _ ?_; clear hK K; refine Run.nq ?_
  refine Run.nq ?_; refine Run.regionW hC (fun K hK => ?_); simp only [AW7, simprocAttr, hX]; (repeat (with_reducible refine And.intro ?_ ?_); exact vc0); refine hK _ ?_; clear hK K; refine Run.nq ?_
  refine Run.nq ?_; refine Run.regionW hC (fun K hK => ?_); simp only [AW7, simprocAttr, hX]; (repeat (with_reducible refine And.intro ?_ ?_); exact vc0); refine hK _ ?_; clear hK K; refine Run.nq ?_
  refine Run.reK hpin [0, 1, 5, 6] [0] (by decide) (by simp) ?_; simp only [AR, AW7, simprocAttr]
  refine Run.le (Le.sub (fr' := [(0, true, .v (.sl false .int w)), (1, true, .v (.int .i64 k)), (5, true, .v (.own 0 0)), (6, true, .v (.int .i64 (0 : Nat)))]) (obs' := [.arr .int (delN w k 0) 0 true]) (by simp [delN]) (by simp only [AW7, simprocAttr]; try simp)) ?_
  refine Run.loopI (X := Nat) (fun i => ⟨25, [(0, true, .v (.sl false .int (w))), (1, true, .v (.int .i64 (k))), (5, true, .v (.own 0 0)), (6, true, .v (.int .i64 (i)))], [.arr .int ((delN w k i)) 0 true]⟩) (fun i => i ≤ w.length) (fun i => w.length - i) (0) (Nat.zero_le _) ?_ ?_
  · exact Le.sub (by first | rfl | simp) (by simp only [AW7, simprocAttr, hX]; try simp <;> try (first | rfl | exact ⟨rfl, rfl⟩ | exact ⟨rfl, rfl, rfl⟩))
  rintro i hi ih
  try simp only []
  have hdl : (delN w k i).length ≤ i := by unfold delN; simp; omega
  refine Run.nq ?_; refine Run.regionW hC (fun K hK => ?_); simp only [AW7, simprocAttr, hX]; (repeat (with_reducible refine And.intro ?_ ?_); exact vc0); refine hK _ ?_; clear hK K; refine Run.nq ?_
  refine Run.nq ?_; refine Run.condW (by simp only [AW7, simprocAttr, hX]; rfl) (by simp only [AW7, simprocAttr, hX]) ?_ ?_
  rotate_left
  · intro h
    have h : i = w.length := by rw [decide_eq_false_iff_not] at h; omega
    refine Run.exit rfl ?_; refine Run.nq ?_
    refine Run.nq ?_; refine Run.regionW hC (fun K hK => ?_); simp only [AW7, simprocAttr, hX]; (repeat (with_reducible refine And.intro ?_ ?_); exact vc0); refine hK _ ?_; clear hK K; refine Run.nq ?_
    refine Run.reK hpin [4] [0] (by decide) (by simp) ?_; simp only [AR, AW7, simprocAttr]
    refine Run.retW [4] (by decide) (by rw [hfn]; rfl) (by simp only [AW7, simprocAttr, hX]; rfl) (by simp only [AW7, simprocAttr, hX]) (hfin _ _ rfl rfl ?_)
    rw [h, delN_all]; exact ⟨rfl, rfl⟩
  intro h
  have h : i < w.length := by rw [decide_eq_true_eq] at h; omega
  have hs := delN_snoc w k i h
  refine Run.nq ?_; refine Run.regionW hC (fun K hK => ?_); simp only [AW7, simprocAttr, hX]; (repeat (with_reducible refine And.intro ?_ ?_); exact vc0); refine hK _ ?_; clear hK K; refine Run.nq ?_
  refine Run.nq ?_; refine Run.condW (by simp only [AW7, simprocAttr, hX]; rfl) (by simp only [AW7, simprocAttr, hX]) ?_ ?_
  · intro h2
    have h2 : ¬ i = k := by intro e; rw [e] at h2; simp at h2
    rw [if_neg h2] at hs
    refine Run.nq ?_; refine Run.regionW hC (fun K hK => ?_); simp only [AW7, simprocAttr, hX]; (repeat (with_reducible refine And.intro ?_ ?_); exact vc0); refine hK _ ?_; clear hK K; refine Run.nq ?_
    refine Run.reK hpin [0, 1, 5, 6] [0] (by decide) (by simp) ?_; simp only [AR, AW7, simprocAttr]
    refine Run.nq ?_; refine Run.regionW hC (fun K hK => ?_); simp (disch := omega) only [wrap_id, AW7, simprocAttr, hX]; (repeat (with_reducible refine And.intro ?_ ?_); exact vc0); refine hK _ ?_; clear hK K; refine Run.nq ?_
    refine Run.le ?_ (ih (i + 1) (by omega) (by (try simp only [List.length_append, List.length_cons, List.length_nil]); omega))
    exact Le.sub (by first | rfl | (simp only [hs]; done) | (rw [hs]; rfl)) (by simp only [AW7, simprocAttr]; try simp)
  intro h2
  have h2 : i = k := by simp at h2; omega
  rw [if_pos h2] at hs
  refine Run.nq ?_; refine Run.regionW hC (fun K hK => ?_); simp (disch := omega) only [wrap_id, AW7, simprocAttr, hX]; (repeat (with_reducible refine And.intro ?_ ?_); exact vc0); refine hK _ ?_; clear hK K; refine Run.nq ?_
  refine Run.le ?_ (ih (i + 1) (by omega) (by (try simp only [List.length_append, List.length_cons, List.length_nil]); omega))
  exact Le.sub (by first | rfl | (simp only [hs]; done) | (rw [hs]; rfl)) (by simp only [AW7, simprocAttr]; try simp)
end Go.Proofs.YtojcdgdbffmlpaaGreat
namespace Go.Proofs.YtojcdgdbffmlpaaGreat
open Go Go.Aw
theorem c_l8Two (code : List Int) (hl : code.length ≤ 1048576) : FunA B 103 [.sl false .byte code] (fun rs o => ∃ c u v, (1 ≤ c.length ∧ c.length ≤ 5) ∧ u.length ≤ 31 ∧ v.length ≤ 31 ∧ rs = [.sl true (.row true) c, .sl true .int u, .sl true .int v] ∧ o = []) := by
  refine FunA.walk B_ok (fn := Tryz.f103) (fun vs w => Tryz.call103 vs w) Tryz.func103 rfl (by rw [Tryz.ntmps103]; simp) (fun C hC hP hT hΓ hbt hfn hpin hfin => ?_); have hX := BX; rw [← hΓ, ← hbt.1, ← hbt.2] at hX; rw [Tryz.ntmps103]; simp only [AW7, simprocAttr, hX]
  refine Run.nq ?_; refine Run.regionW hC (fun K hK => ?_); simp only [AW7, simprocAttr, hX]; (repeat (with_reducible refine And.intro ?_ ?_); exact vc0); refine hK _ ?_; clear hK K; refine Run.nq ?_
  refine Run.nq ?_; refine Run.regionW hC (fun K hK => ?_); simp only [AW7, simprocAttr, hX]; (repeat (with_reducible refine And.intro ?_ ?_); exact vc0)
  refine ACall.new hP (by omega) fun s => ?_
  (try simp only [AW7, simprocAttr, hX]); (repeat (with_reducible refine And.intro ?_ ?_); exact vc0)
  (repeat (with_reducible refine And.intro ?_ ?_); exact vc0); refine hK _ ?_; clear hK K; refine Run.nq ?_
  refine Run.nq ?_; refine Run.regionW hC (fun K hK => ?_); simp only [AW7, simprocAttr, hX]; (repeat (with_reducible refine And.intro ?_ ?_); exact vc0)
  refine FunO.callCur hP hT (c_l2Any s) 0 0 (by first | rfl | (simp only [AW7, simprocAttr]; done) | (simp only [AW7, simprocAttr]; rfl)) (by simp only [AW7, simprocAttr]) ?_
  rintro rs o' obs' ⟨c, g, nn, ⟨c1, c2⟩, rfl, rfl, ho⟩
  injection ho with ho1 ho2; subst ho1 ho2
  (try simp only [AW7, simprocAttr, hX]); (repeat (with_reducible refine And.intro ?_ ?_); exact vc0)
  (repeat (with_reducible refine And.intro ?_ ?_); exact vc0); refine hK _ ?_; clear hK K; refine Run.nq ?_
  refine Run.nq ?_; refine Run.regionW hC (fun K hK => ?_); simp only [AW7, simprocAttr, hX]; (repeat (with_reducible refine And.intro ?_ ?_); exact vc0)
  refine FunO.callCur hP hT (c_l5Word s c 7 (by omega) (by omega)) 0 0 (by first | rfl | (simp only [AW7, simprocAttr]; done) | (simp only [AW7, simprocAttr]; rfl)) (by simp only [AW7, simprocAttr]; decide) ?_
  rintro rs o' obs' ⟨u, nn, hu, hul, rfl, rfl, ho⟩
  injection ho with ho1 ho2; subst ho1 ho2
  (try simp only [AW7, simprocAttr, hX]); (repeat (with_reducible refine And.intro ?_ ?_); exact vc0)
  (repeat (with_reducible refine And.intro ?_ ?_); exact vc0); refine hK _ ?_; clear hK K; refine Run.nq ?_
  refine Run.nq ?_; refine Run.regionW hC (fun K hK => ?_); simp only [AW7, simprocAttr, hX]; (repeat (with_reducible refine And.intro ?_ ?_); exact vc0)
  refine FunO.callCur hP hT (c_l5Word s c 7 (by omega) (by omega)) 0 0 (by first | rfl | (simp only [AW7, simprocAttr]; done) | (simp only [AW7, simprocAttr]; rfl)) (by simp only [AW7, simprocAttr]; decide) ?_
  rintro rs o' obs' ⟨v, nn, hv, hvl, rfl, rfl, ho⟩
  injection ho with ho1 ho2; subst ho1 ho2
  (try simp only [AW7, simprocAttr, hX]); (repeat (with_reducible refine And.intro ?_ ?_); exact vc0)
  (repeat (with_reducible refine And.intro ?_ ?_); exact vc0); refine hK _ ?_; clear hK K; refine Run.nq ?_
  refine Run.reK hpin [0, 5, 6, 7, 8] [0, 1, 2, 3] (by decide) (by simp) ?_; simp only [AR, AW7, simprocAttr]
  refine Run.nq ?_; refine Run.regionW hC (fun K hK => ?_); simp only [AW7, simprocAttr, hX]; (repeat (with_reducible refine And.intro ?_ ?_); exact vc0)
  refine FunO.callCur hP hT (c_l1Once s 3 (by decide) (by decide)) 0 0 (by first | rfl | (simp only [AW7, simprocAttr]; done) | (simp only [AW7, simprocAttr]; rfl)) (by simp only [AW7, simprocAttr]) ?_
  rintro rs o' obs' ⟨x, rfl, ho⟩
  injection ho with ho1 ho2; subst ho1 ho2
  (try simp only [AW7, simprocAttr, hX]); (repeat (with_reducible refine And.intro ?_ ?_); exact vc0)
  refine .inl (FunA.callG hP hT (c_spec_IsWord c u (by omega)) (fun _ => rfl) (fun _ => by simp only [AW7, simprocAttr]) ?_)
  (try simp only [AW7, simprocAttr, hX]); (repeat (with_reducible refine And.intro ?_ ?_); exact vc0)
  (repeat (with_reducible refine And.intro ?_ ?_); exact vc0); refine hK _ ?_; clear hK K; refine Run.nq ?_
  refine Run.reK hpin [0, 5, 6, 7, 8, 25] [0, 1, 2, 3] (by decide) (by simp) ?_; simp only [AR, AW7, simprocAttr]
  refine Run.nq ?_; refine Run.condW (by simp only [AW7, simprocAttr, hX]; rfl) (by simp only [AW7, simprocAttr, hX]) ?_ ?_
  · intro h
    have hw : wordB c u = true := by
      revert h
      cases x <;> simp
    obtain ⟨hc, hlt, hl31⟩ := wordB_iff.1 hw
    refine Run.nq ?_; refine Run.regionW hC (fun K hK => ?_); simp only [AW7, simprocAttr, hX]; (repeat (with_reducible refine And.intro ?_ ?_); exact vc0)
    refine FunA.callW hP hT (c_spec_l8Normal c u hc hl31 (by omega)) (by simp only [AW7, simprocAttr]) ?_
    rintro rs o ⟨rfl, rfl⟩
    (try simp only [AW7, simprocAttr, hX]); (repeat (with_reducible refine And.intro ?_ ?_); exact vc0)
    (repeat (with_reducible refine And.intro ?_ ?_); exact vc0); refine hK _ ?_; clear hK K; refine Run.nq ?_
    have hrl := (red_spec hc hl31 (by omega)).2.1
    refine Run.nq ?_; refine Run.regionW hC (fun K hK => ?_); simp only [AW7, simprocAttr, hX]; (repeat (with_reducible refine And.intro ?_ ?_); exact vc0); refine hK _ ?_; clear hK K; refine Run.nq ?_
    refine Run.reK hpin [2, 3, 4] [1, 2, 4] (by decide) (by simp) ?_; simp only [AR, AW7, simprocAttr]
    refine Run.letgoK 0 [2, 3, 4] rfl ?_; simp only [AL, frV_cons, frV_nil, AW7, simprocAttr]
    refine Run.letgoK 1 [2, 3, 4] rfl ?_; simp only [AL, frV_cons, frV_nil, AW7, simprocAttr]
    refine Run.letgoK 2 [2, 3, 4] rfl ?_; simp only [AL, frV_cons, frV_nil, AW7, simprocAttr]
    refine Run.reK hpin [2, 3, 4] [] (by decide) (by simp) ?_; simp only [AR, AW7, simprocAttr]
    refine Run.retW [2, 3, 4] (by decide) (by rw [hfn]; rfl) (by simp only [AW7, simprocAttr, hX]; rfl) (by simp only [AW7, simprocAttr, hX]) (hfin _ _ rfl rfl ?_)
    exact ⟨c, u, redL c u, ⟨c1, c2⟩, by omega, by omega, rfl, rfl⟩
  intro _
  refine Run.nq ?_; refine Run.regionW hC (fun K hK => ?_); simp only [AW7, simprocAttr, hX]; (repeat (with_reducible refine And.intro ?_ ?_); exact vc0); refine hK _ ?_; clear hK K; refine Run.nq ?_
  refine Run.reK hpin [2, 3, 4] [1, 2, 3] (by decide) (by simp) ?_; simp only [AR, AW7, simprocAttr]
  refine Run.letgoK 0 [2, 3, 4] rfl ?_; simp only [AL, frV_cons, frV_nil, AW7, simprocAttr]
  refine Run.letgoK 1 [2, 3, 4] rfl ?_; simp only [AL, frV_cons, frV_nil, AW7, simprocAttr]
  refine Run.letgoK 2 [2, 3, 4] rfl ?_; simp only [AL, frV_cons, frV_nil, AW7, simprocAttr]
  refine Run.reK hpin [2, 3, 4] [] (by decide) (by simp) ?_; simp only [AR, AW7, simprocAttr]
  refine Run.retW [2, 3, 4] (by decide) (by rw [hfn]; rfl) (by simp only [AW7, simprocAttr, hX]; rfl) (by simp only [AW7, simprocAttr, hX]) (hfin _ _ rfl rfl ?_)
  exact ⟨c, u, v, ⟨c1, c2⟩, by omega, by omega, rfl, rfl⟩
theorem c_DrawIsBruhatBelow (code : List Int) (hl : code.length ≤ 1048576) : FunA B 8 [.sl false .byte code] (fun rs o => ∃ c u v, (1 ≤ c.length ∧ c.length ≤ 5) ∧ u.length ≤ 31 ∧ v.length ≤ 31 ∧ rs = [.sl true (.row true) c, .sl true .int u, .sl true .int v] ∧ o = []) := by
  refine FunA.walk B_ok (fn := Tryz.f8) (fun vs w => Tryz.call8 vs w) Tryz.func8 rfl (by rw [Tryz.ntmps8]; simp) (fun C hC hP hT hΓ hbt hfn hpin hfin => ?_); have hX := BX; rw [← hΓ, ← hbt.1, ← hbt.2] at hX; rw [Tryz.ntmps8]; simp only [AW7, simprocAttr, hX]
  refine Run.nq ?_; refine Run.regionW hC (fun K hK => ?_); simp only [AW7, simprocAttr, hX]; (repeat (with_reducible refine And.intro ?_ ?_); exact vc0); refine hK _ ?_; clear hK K; refine Run.nq ?_
  refine Run.nq ?_; refine Run.regionW hC (fun K hK => ?_); simp only [AW7, simprocAttr, hX]; (repeat (with_reducible refine And.intro ?_ ?_); exact vc0)
  refine FunA.callW hP hT (c_l8Two code hl) (by simp only [AW7, simprocAttr]) ?_
  rintro rs o ⟨c, u, v, ⟨c1, c2⟩, hu, hv, rfl, rfl⟩
  (try simp only [AW7, simprocAttr, hX]); (repeat (with_reducible refine And.intro ?_ ?_); exact vc0)
  (repeat (with_reducible refine And.intro ?_ ?_); exact vc0); refine hK _ ?_; clear hK K; refine Run.nq ?_
  refine Run.reK hpin [0, 5, 6, 7] [] (by decide) (by simp) ?_; simp only [AR, AW7, simprocAttr]
  refine Run.nq ?_; refine Run.regionW hC (fun K hK => ?_); simp only [AW7, simprocAttr, hX]; (repeat (with_reducible refine And.intro ?_ ?_); exact vc0); refine hK _ ?_; clear hK K; refine Run.nq ?_
  refine Run.nq ?_; refine Run.condW (by simp only [AW7, simprocAttr, hX]; rfl) (by simp only [AW7, simprocAttr, hX]) ?_ ?_
  · intro h
    have h : 2 < v.length := by
      revert h
      cases hx : ((code.length : Int).tmod 2 == 0) <;> simp
      omega
    have hm : (code.length : Int).tmod (v.length : Int) = ((code.length % v.length : Nat) : Int) := by
      rw [Int.tmod_eq_emod_of_nonneg (by omega)]; omega
    have hml := Nat.mod_lt code.length (by omega : 0 < v.length)
    refine Run.nq ?_; refine Run.regionW hC (fun K hK => ?_); simp only [AW7, simprocAttr, hX]; (repeat (with_reducible refine And.intro ?_ ?_); exact vc0)
    rw [hm]
    refine FunA.callW hP hT (c_spec_DeleteAt v (code.length % v.length) (by omega)) (by simp only [AW7, simprocAttr]) ?_
    rintro rs o ⟨rfl, rfl⟩
    (try simp only [AW7, simprocAttr, hX]); (repeat (with_reducible refine And.intro ?_ ?_); exact vc0)
    (repeat (with_reducible refine And.intro ?_ ?_); exact vc0); refine hK _ ?_; clear hK K; refine Run.nq ?_
    refine Run.letgoK 0 [2, 3, 4] rfl ?_; simp only [AL, frV_cons, frV_nil, AW7, simprocAttr]
    refine Run.reK hpin [2, 3, 4] [] (by decide) (by simp) ?_; simp only [AR, AW7, simprocAttr]
    refine Run.retW [2, 3, 4] (by decide) (by rw [hfn]; rfl) (by simp only [AW7, simprocAttr, hX]; rfl) (by simp only [AW7, simprocAttr, hX]) (hfin _ _ rfl rfl ?_)
    exact ⟨c, _, v, ⟨c1, c2⟩, by simp; omega, hv, rfl, rfl⟩
  intro _
  refine Run.nq ?_; refine Run.regionW hC (fun K hK => ?_); simp only [AW7, simprocAttr, hX]; (repeat (with_reducible refine And.intro ?_ ?_); exact vc0); refine hK _ ?_; clear hK K; refine Run.nq ?_
  refine Run.retW [2, 3, 4] (by decide) (by rw [hfn]; rfl) (by simp only [AW7, simprocAttr, hX]; rfl) (by simp only [AW7, simprocAttr, hX]) (hfin _ _ rfl rfl ?_)
  exact ⟨c, u, v, ⟨c1, c2⟩, hu, hv, rfl, rfl⟩
theorem c_DrawMoebiusOf (code : List Int) (hl : code.length ≤ 1048576) : FunA B 20 [.sl false .byte code] (fun rs o => ∃ c u v, (1 ≤ c.length ∧ c.length ≤ 5) ∧ u.length ≤ 2 ∧ v.length ≤ 7 ∧ rs = [.sl true (.row true) c, .sl true .int u, .sl true .int v] ∧ o = []) := by
  refine FunA.walk B_ok (fn := Tryz.f20) (fun vs w => Tryz.call20 vs w) Tryz.func20 rfl (by rw [Tryz.ntmps20]; simp) (fun C hC hP hT hΓ hbt hfn hpin hfin => ?_); have hX := BX; rw [← hΓ, ← hbt.1, ← hbt.2] at hX; rw [Tryz.ntmps20]; simp only [AW7, simprocAttr, hX]
  refine Run.nq ?_; refine Run.regionW hC (fun K hK => ?_); simp only [AW7, simprocAttr, hX]; (repeat (with_reducible refine And.intro ?_ ?_); exact vc0); refine hK _ ?_; clear hK K; refine Run.nq ?_
  refine Run.nq ?_; refine Run.regionW hC (fun K hK => ?_); simp only [AW7, simprocAttr, hX]; (repeat (with_reducible refine And.intro ?_ ?_); exact vc0)
  refine FunA.callW hP hT (c_l15Two code hl) (by simp only [AW7, simprocAttr]) ?_
  rintro rs o ⟨c, u, v, ⟨c1, c2⟩, hu, hv, rfl, rfl⟩
  (try simp only [AW7, simprocAttr, hX]); (repeat (with_reducible refine And.intro ?_ ?_); exact vc0)
  (repeat (with_reducible refine And.intro ?_ ?_); exact vc0); refine hK _ ?_; clear hK K; refine Run.nq ?_
  refine Run.nq ?_; refine Run.regionW hC (fun K hK => ?_); simp only [AW7, simprocAttr, hX]; (repeat (with_reducible refine And.intro ?_ ?_); exact vc0); refine hK _ ?_; clear hK K; refine Run.nq ?_
  refine Run.retW [2, 3, 4] (by decide) (by rw [hfn]; rfl) (by simp only [AW7, simprocAttr, hX]; rfl) (by simp only [AW7, simprocAttr, hX]) (hfin _ _ rfl rfl ?_)
  exact ⟨c, u, v, ⟨c1, c2⟩, hu, hv, rfl, rfl⟩
theorem c_DrawLowerInterval (code : List Int) (hl : code.length ≤ 1048576) : FunA B 26 [.sl false .byte code] (fun rs o => ∃ c w, (1 ≤ c.length ∧ c.length ≤ 5) ∧ w.length ≤ 7 ∧ rs = [.sl true (.row true) c, .sl true .int w] ∧ o = []) := by
  refine FunA.walk B_ok (fn := Tryz.f26) (fun vs w => Tryz.call26 vs w) Tryz.func26 rfl (by rw [Tryz.ntmps26]; simp) (fun C hC hP hT hΓ hbt hfn hpin hfin => ?_); have hX := BX; rw [← hΓ, ← hbt.1, ← hbt.2] at hX; rw [Tryz.ntmps26]; simp only [AW7, simprocAttr, hX]
  refine Run.nq ?_; refine Run.regionW hC (fun K hK => ?_); simp only [AW7, simprocAttr, hX]; (repeat (with_reducible refine And.intro ?_ ?_); exact vc0); refine hK _ ?_; clear hK K; refine Run.nq ?_
  refine Run.nq ?_; refine Run.regionW hC (fun K hK => ?_); simp only [AW7, simprocAttr, hX]; (repeat (with_reducible refine And.intro ?_ ?_); exact vc0)
  refine FunA.callW hP hT (c_l11Small code hl) (by simp only [AW7, simprocAttr]) ?_
  rintro rs o ⟨c, w, ⟨c1, c2⟩, hw, rfl, rfl⟩
  (try simp only [AW7, simprocAttr, hX]); (repeat (with_reducible refine And.intro ?_ ?_); exact vc0)
  (repeat (with_reducible refine And.intro ?_ ?_); exact vc0); refine hK _ ?_; clear hK K; refine Run.nq ?_
  refine Run.nq ?_; refine Run.regionW hC (fun K hK => ?_); simp only [AW7, simprocAttr, hX]; (repeat (with_reducible refine And.intro ?_ ?_); exact vc0); refine hK _ ?_; clear hK K; refine Run.nq ?_
  refine Run.retW [2, 3] (by decide) (by rw [hfn]; rfl) (by simp only [AW7, simprocAttr, hX]; rfl) (by simp only [AW7, simprocAttr, hX]) (hfin _ _ rfl rfl ?_)
  exact ⟨c, w, ⟨c1, c2⟩, hw, rfl, rfl⟩
theorem c_DrawBruhatCovers (code : List Int) (hl : code.length ≤ 1048576) : FunA B 29 [.sl false .byte code] (fun rs o => ∃ c w, (1 ≤ c.length ∧ c.length ≤ 5) ∧ w.length ≤ 10 ∧ rs = [.sl true (.row true) c, .sl true .int w] ∧ o = []) := by
  refine FunA.walk B_ok (fn := Tryz.f29) (fun vs w => Tryz.call29 vs w) Tryz.func29 rfl (by rw [Tryz.ntmps29]; simp) (fun C hC hP hT hΓ hbt hfn hpin hfin => ?_); have hX := BX; rw [← hΓ, ← hbt.1, ← hbt.2] at hX; rw [Tryz.ntmps29]; simp only [AW7, simprocAttr, hX]
  refine Run.nq ?_; refine Run.regionW hC (fun K hK => ?_); simp only [AW7, simprocAttr, hX]; (repeat (with_reducible refine And.intro ?_ ?_); exact vc0); refine hK _ ?_; clear hK K; refine Run.nq ?_
  refine Run.nq ?_; refine Run.regionW hC (fun K hK => ?_); simp only [AW7, simprocAttr, hX]; (repeat (with_reducible refine And.intro ?_ ?_); exact vc0)
  refine FunA.callW hP hT (c_l5Any code hl) (by simp only [AW7, simprocAttr]) ?_
  rintro rs o ⟨c, w, ⟨c1, c2⟩, hw, rfl, rfl⟩
  (try simp only [AW7, simprocAttr, hX]); (repeat (with_reducible refine And.intro ?_ ?_); exact vc0)
  (repeat (with_reducible refine And.intro ?_ ?_); exact vc0); refine hK _ ?_; clear hK K; refine Run.nq ?_
  refine Run.nq ?_; refine Run.regionW hC (fun K hK => ?_); simp only [AW7, simprocAttr, hX]; (repeat (with_reducible refine And.intro ?_ ?_); exact vc0); refine hK _ ?_; clear hK K; refine Run.nq ?_
  refine Run.retW [2, 3] (by decide) (by rw [hfn]; rfl) (by simp only [AW7, simprocAttr, hX]; rfl) (by simp only [AW7, simprocAttr, hX]) (hfin _ _ rfl rfl ?_)
  exact ⟨c, w, ⟨c1, c2⟩, hw, rfl, rfl⟩
end Go.Proofs.YtojcdgdbffmlpaaGreat

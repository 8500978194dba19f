/- Whether a group is finite: the reference's side. -/
import Derived.Test.YtdhfonblpbpmmaaDet3
import Derived.Test.YtdhfonblpbpmmaaWeak
set_option linter.unusedVariables false
set_option linter.unusedSimpArgs false
namespace Go.Proofs.Ytdhfonblpbpmmaa
open Go Go.Aw Go.Cox

theorem setM_full : ∀ n : Nat, n ≤ 4 → ∀ k : Nat, k < 2 ^ n → setM k n = setL k := by decide
def setsL (k : Nat) : List (List Int) := (List.range k).map fun i => setL (i + 1)
theorem setsL_succ (k : Nat) : setsL k ++ [setL (k + 1)] = setsL (k + 1) := by simp [setsL, List.range_succ]
theorem setsL_len (k : Nat) : (setsL k).length = k := by simp [setsL]
theorem setsL_get (n k : Nat) (h : k < n) : (setsL n).getD k [] = setL (k + 1) := by simp [setsL, List.getD_eq_getElem?_getD, h]

theorem c_spec_l4Sets (n : Nat) (hn : n ≤ 4) : FunA B 102 [.int .i64 n] (fun rs o => rs = [.own 0 0] ∧ ∃ ys, ys.map (·.2) = setsL (2 ^ n - 1) ∧ o = [.arr .lrow ys 0 true]) := by
  have hsh := shl_one n hn
  have hpw := pow_le16 n hn
  have hp1 : 1 ≤ 2 ^ n := Nat.one_le_two_pow
  refine FunA.walk B_ok (fn := Try.f102) (fun vs w => Try.call102 vs w) Try.func102 rfl (by rw [Try.ntmps102]; simp) (fun C hC hP hT hΓ hbt hfn hpin hfin => ?_); have hX := BX; rw [← hΓ, ← hbt.1, ← hbt.2] at hX; rw [Try.ntmps102]; simp only [AW6, simprocAttr, hX]
  refine Run.nq ?_; refine Run.regionW hC (fun K hK => ?_); simp only [AW6, simprocAttr, hX]; (repeat (with_reducible refine And.intro ?_ ?_); exact vc0); refine hK _ ?_; clear hK K; refine Run.nq ?_
  refine Run.nq ?_; refine Run.regionW hC (fun K hK => ?_); simp only [AW6, simprocAttr, hX]; (repeat (with_reducible refine And.intro ?_ ?_); exact vc0); refine hK _ ?_; clear hK K; refine Run.nq ?_
  refine Run.nq ?_; refine Run.regionW hC (fun K hK => ?_); simp only [AW6, simprocAttr, hX]; (repeat (with_reducible refine And.intro ?_ ?_); exact vc0); refine hK _ ?_; clear hK K; refine Run.nq ?_
  refine Run.le (Le.sub (fr' := [(0, true, .v (.int .i64 n)), (2, true, .v .nils), (3, true, .v (.own 0 0)), (4, true, .v (.int .i64 ((0 + 1 : Nat))))]) rfl (by simp only [AW6, simprocAttr]; try simp)) ?_
  refine Run.loopI (X := Nat × List (Nat × List Int)) (fun k => ⟨34, [(0, true, .v (.int .i64 (n))), (2, true, .v (.nils)), (3, true, .v (.own 0 0)), (4, true, .v (.int .i64 (((k.1 + 1 : Nat)))))], [.arr .lrow (k.2) 0 true]⟩) (fun k => k.1 + 1 ≤ 2 ^ n ∧ k.2.map (·.2) = setsL k.1) (fun k => 2 ^ n - k.1) ((0, [])) (⟨by simp only []; omega, rfl⟩) ?_ ?_
  · exact Le.sub (by first | rfl | simp) (by simp only [AW6, simprocAttr, hX]; try simp <;> try (first | rfl | exact ⟨rfl, rfl⟩ | exact ⟨rfl, rfl, rfl⟩))
  rintro ⟨k, ys⟩ ⟨hk, hy⟩ ih
  try simp only []
  simp only [] at hk hy
  have hyl : ys.length = k := by have := congrArg List.length hy; simpa [setsL_len] using this
  refine Run.nq ?_; refine Run.regionW hC (fun K hK => ?_); simp only [AW6, simprocAttr, hX]; (repeat (with_reducible refine And.intro ?_ ?_); exact vc0)
  simp only [hsh]
  (repeat (with_reducible refine And.intro ?_ ?_); exact vc0); refine hK _ ?_; clear hK K; refine Run.nq ?_
  refine Run.nq ?_; refine Run.condW (by simp only [AW6, simprocAttr, hX]; rfl) (by simp only [AW6, simprocAttr, hX]) ?_ ?_
  · intro h
    have h : k + 1 < 2 ^ n := Int.ofNat_lt.1 (of_decide_eq_true h)
    refine Run.nq ?_; refine Run.regionW hC (fun K hK => ?_); simp only [AW6, simprocAttr, hX]; (repeat (with_reducible refine And.intro ?_ ?_); exact vc0); refine hK _ ?_; clear hK K; refine Run.nq ?_
    refine Run.nq ?_; refine Run.regionW hC (fun K hK => ?_); simp only [AW6, simprocAttr, hX]; (repeat (with_reducible refine And.intro ?_ ?_); exact vc0); refine hK _ ?_; clear hK K; refine Run.nq ?_
    refine Run.reK hpin [0, 2, 3, 4, 5, 6] [0, 1] (by decide) (by simp) ?_; simp only [AR, AW6, simprocAttr]
    refine Run.loopI (X := Nat) (fun i => ⟨34, [(0, true, .v (.int .i64 (n))), (2, true, .v (.nils)), (3, true, .v (.own 0 0)), (4, true, .v (.int .i64 (((k + 1 : Nat))))), (5, true, .v (.own 1 0)), (6, true, .v (.int .i64 (i)))], [.arr .lrow (ys) 0 true, .arr .int ((setM (k + 1) i)) 0 true]⟩) (fun i => i ≤ n) (fun i => n - i) (0) (Nat.zero_le _) ?_ ?_
    · exact Le.sub (by first | rfl | simp) (by simp only [AW6, simprocAttr, hX]; try simp <;> try (first | rfl | exact ⟨rfl, rfl⟩ | exact ⟨rfl, rfl, rfl⟩))
    rintro i hi ih2
    try simp only []
    have hsl := setM_len (k + 1) i
    refine Run.nq ?_; refine Run.regionW hC (fun K hK => ?_); simp only [AW6, simprocAttr, hX]; (repeat (with_reducible refine And.intro ?_ ?_); exact vc0); refine hK _ ?_; clear hK K; refine Run.nq ?_
    refine Run.nq ?_; refine Run.condW (by simp only [AW6, simprocAttr, hX]; rfl) (by simp only [AW6, simprocAttr, hX]) ?_ ?_
    · intro h2
      have h2 : i < n := by simpa using h2
      have hb2 := bit_and (k + 1) (by omega) i (by omega)
      have h3 := setM_succ (k + 1) i
      refine Run.nq ?_; refine Run.regionW hC (fun K hK => ?_); simp only [AW6, simprocAttr, hX]; (repeat (with_reducible refine And.intro ?_ ?_); exact vc0); refine hK _ ?_; clear hK K; refine Run.nq ?_
      refine Run.nq ?_; refine Run.condW (by simp only [AW6, simprocAttr, hX]; rfl) (by simp only [AW6, simprocAttr, hX]) ?_ ?_
      · intro hb
        rw [hb2] at hb
        rw [hb, if_pos rfl] at h3
        refine Run.nq ?_; refine Run.regionW hC (fun K hK => ?_); simp only [AW6, simprocAttr, hX]; (repeat (with_reducible refine And.intro ?_ ?_); exact vc0); refine hK _ ?_; clear hK K; refine Run.nq ?_
        refine Run.nq ?_; refine Run.regionW hC (fun K hK => ?_); simp (disch := omega) only [wrap_id, AW6, simprocAttr, hX]; (repeat (with_reducible refine And.intro ?_ ?_); exact vc0); refine hK _ ?_; clear hK K; refine Run.nq ?_
        refine Run.reK hpin [0, 2, 3, 4, 5, 6] [0, 1] (by decide) (by simp) ?_; simp only [AR, AW6, simprocAttr]
        refine Run.le ?_ (ih2 (i + 1) (by omega) (by omega))
        exact Le.sub (by rw [h3]) (by simp only [AW6, simprocAttr]; try simp)
      · intro hb
        rw [hb2] at hb
        rw [hb] at h3
        refine Run.nq ?_; refine Run.regionW hC (fun K hK => ?_); simp (disch := omega) only [wrap_id, AW6, simprocAttr, hX]; (repeat (with_reducible refine And.intro ?_ ?_); exact vc0); refine hK _ ?_; clear hK K; refine Run.nq ?_
        refine Run.le ?_ (ih2 (i + 1) (by omega) (by omega))
        exact Le.sub (by rw [h3]; rfl) (by simp only [AW6, simprocAttr]; try simp)
    · intro h2
      have h2 : i = n := by simp at h2; omega
      have hfull := setM_full n hn (k + 1) (by omega)
      rw [h2, hfull]
      refine Run.exit rfl ?_; refine Run.nq ?_
      refine Run.nq ?_; refine Run.regionW hC (fun K hK => ?_); simp only [AW6, simprocAttr, hX]; (repeat (with_reducible refine And.intro ?_ ?_); exact vc0)
      intro l hl
      (try simp only [AW6, simprocAttr, hX]); (repeat (with_reducible refine And.intro ?_ ?_); exact vc0)
      (repeat (with_reducible refine And.intro ?_ ?_); exact vc0); refine hK _ ?_; clear hK K; refine Run.nq ?_
      refine Run.nq ?_; refine Run.regionW hC (fun K hK => ?_); simp (disch := omega) only [wrap_id, AW6, simprocAttr, hX]; (repeat (with_reducible refine And.intro ?_ ?_); exact vc0); refine hK _ ?_; clear hK K; refine Run.nq ?_
      refine Run.reK hpin [0, 2, 3, 4] [0] (by decide) (by simp) ?_; simp only [AR, AW6, simprocAttr]
      refine Run.le ?_ (ih (k + 1, ys ++ [(l, setL (k + 1))]) ⟨by simp only []; omega, by simp only [List.map_append, hy, List.map_cons, List.map_nil]; exact setsL_succ k⟩ (by simp only []; omega))
      exact Le.sub (by rfl) (by simp only [AW6, simprocAttr]; try simp)
  · intro h
    have h : k + 1 = 2 ^ n := by have h := of_decide_eq_false h; rw [Int.ofNat_lt] at h; omega
    refine Run.exit rfl ?_; refine Run.nq ?_
    refine Run.nq ?_; refine Run.regionW hC (fun K hK => ?_); simp only [AW6, simprocAttr, hX]; (repeat (with_reducible refine And.intro ?_ ?_); exact vc0); refine hK _ ?_; clear hK K; refine Run.nq ?_
    refine Run.retW [2] (by decide) (by rw [hfn]; rfl) (by simp only [AW6, simprocAttr, hX]; rfl) (by simp only [AW6, simprocAttr, hX]) (hfin _ _ rfl rfl ?_)
    exact ⟨rfl, ys, by rw [hy, show 2 ^ n - 1 = k by omega], rfl⟩

theorem c_spec_SubCartan (c : List (List Int)) (s : List Int) (hc : CartanP c) (hs : setP c.length s) (hne : s ≠ []) :
    FunA B 103 [.sl false (.row false) c, .sl false .int s] (fun rs o => rs = [.own 0 0, .bool true] ∧ ∃ ys, ys.map (·.2) = pick c s ∧ o = [.arr .lrow ys 0 true]) := by
  have hl4 : s.length ≤ c.length := set_len hs
  have hlet : letters c.length s := set_letters hs
  have hn := hc.2.1
  have hset : isSetB c s = true := by unfold isSetB; rw [isC_true hc, setB_iff.2 hs]; rfl
  have hsl : s.length ≠ 0 := fun h => hne (List.eq_nil_of_length_eq_zero h)
  refine FunA.walk B_ok (fn := Try.f103) (fun vs w => Try.call103 vs w) Try.func103 rfl (by rw [Try.ntmps103]; simp) (fun C hC hP hT hΓ hbt hfn hpin hfin => ?_); have hX := BX; rw [← hΓ, ← hbt.1, ← hbt.2] at hX; rw [Try.ntmps103]; simp only [AW6, simprocAttr, hX]
  refine Run.nq ?_; refine Run.regionW hC (fun K hK => ?_); simp only [AW6, simprocAttr, hX]; (repeat (with_reducible refine And.intro ?_ ?_); exact vc0); refine hK _ ?_; clear hK K; refine Run.nq ?_
  refine Run.nq ?_; refine Run.regionW hC (fun K hK => ?_); simp only [AW6, simprocAttr, hX]; (repeat (with_reducible refine And.intro ?_ ?_); exact vc0); refine hK _ ?_; clear hK K; refine Run.nq ?_
  refine Run.nq ?_; refine Run.regionW hC (fun K hK => ?_); simp only [AW6, simprocAttr, hX]; (repeat (with_reducible refine And.intro ?_ ?_); exact vc0)
  refine FunA.callW hP hT (c_spec_l3Set c s (by omega)) (by simp only [AW6, simprocAttr]) ?_
  rintro rs o ⟨rfl, rfl⟩
  simp only [hset]
  (try simp only [AW6, simprocAttr, hX]); (repeat (with_reducible refine And.intro ?_ ?_); exact vc0)
  (repeat (with_reducible refine And.intro ?_ ?_); exact vc0); refine hK _ ?_; clear hK K; refine Run.nq ?_
  refine Run.nq ?_; refine Run.condW (by simp only [AW6, simprocAttr, hX]; rfl) (by simp only [AW6, simprocAttr, hX]) ?_ ?_
  · intro h
    simp [hne] at h
  intro h
  clear h
  refine Run.nq ?_; refine Run.regionW hC (fun K hK => ?_); simp only [AW6, simprocAttr, hX]; (repeat (with_reducible refine And.intro ?_ ?_); exact vc0); refine hK _ ?_; clear hK K; refine Run.nq ?_
  refine Run.reK hpin [0, 1, 4, 5, 6, 7] [0] (by decide) (by simp) ?_; simp only [AR, AW6, simprocAttr]
  refine Run.loopI (X := Nat × List (Nat × List Int)) (fun m => ⟨55, [(0, true, .v (.sl false (.row false) (c))), (1, true, .v (.sl false .int (s))), (4, true, .v (.nils)), (5, true, .v (.bool (false))), (6, true, .v (.own 0 0)), (7, true, .v (.int .i64 (m.1)))], [.arr .lrow (m.2) 0 true]⟩) (fun m => m.1 ≤ s.length ∧ m.2.map (·.2) = (s.take m.1).map (rowP c s)) (fun m => s.length - m.1) ((0, [])) (⟨Nat.zero_le _, rfl⟩) ?_ ?_
  · exact Le.sub (by first | rfl | simp) (by simp only [AW6, simprocAttr, hX]; try simp <;> try (first | rfl | exact ⟨rfl, rfl⟩ | exact ⟨rfl, rfl, rfl⟩))
  rintro ⟨m, ys⟩ ⟨hm, hy⟩ ih
  try simp only []
  simp only [] at hm hy
  have hyl : ys.length = m := by have := congrArg List.length hy; simpa [hm] using this
  refine Run.nq ?_; refine Run.regionW hC (fun K hK => ?_); simp only [AW6, simprocAttr, hX]; (repeat (with_reducible refine And.intro ?_ ?_); exact vc0); refine hK _ ?_; clear hK K; refine Run.nq ?_
  refine Run.nq ?_; refine Run.condW (by simp only [AW6, simprocAttr, hX]; rfl) (by simp only [AW6, simprocAttr, hX]) ?_ ?_
  · intro h
    have h : m < s.length := by simpa using h
    obtain ⟨a1, a2⟩ := letters_mem hlet h
    have hr := hc.2.2.1 (s.getD m 0).toNat (by omega)
    refine Run.nq ?_; refine Run.regionW hC (fun K hK => ?_); simp only [AW6, simprocAttr, hX]; (repeat (with_reducible refine And.intro ?_ ?_); exact vc0); refine hK _ ?_; clear hK K; refine Run.nq ?_
    refine Run.nq ?_; refine Run.regionW hC (fun K hK => ?_); simp only [AW6, simprocAttr, hX]; (repeat (with_reducible refine And.intro ?_ ?_); exact vc0); refine hK _ ?_; clear hK K; refine Run.nq ?_
    refine Run.reK hpin [0, 1, 4, 5, 6, 7, 8, 9] [0, 1] (by decide) (by simp) ?_; simp only [AR, AW6, simprocAttr]
    refine Run.loopI (X := Nat) (fun k => ⟨55, [(0, true, .v (.sl false (.row false) (c))), (1, true, .v (.sl false .int (s))), (4, true, .v (.nils)), (5, true, .v (.bool (false))), (6, true, .v (.own 0 0)), (7, true, .v (.int .i64 (m))), (8, true, .v (.own 1 0)), (9, true, .v (.int .i64 (k)))], [.arr .lrow (ys) 0 true, .arr .int (((s.take k).map fun j => ent c (s.getD m 0).toNat j.toNat)) 0 true]⟩) (fun k => k ≤ s.length) (fun k => s.length - k) (0) (Nat.zero_le _) ?_ ?_
    · exact Le.sub (by first | rfl | simp) (by simp only [AW6, simprocAttr, hX]; try simp <;> try (first | rfl | exact ⟨rfl, rfl⟩ | exact ⟨rfl, rfl, rfl⟩))
    rintro k hk ih2
    try simp only []
    refine Run.nq ?_; refine Run.regionW hC (fun K hK => ?_); simp only [AW6, simprocAttr, hX]; (repeat (with_reducible refine And.intro ?_ ?_); exact vc0); refine hK _ ?_; clear hK K; refine Run.nq ?_
    refine Run.nq ?_; refine Run.condW (by simp only [AW6, simprocAttr, hX]; rfl) (by simp only [AW6, simprocAttr, hX]) ?_ ?_
    · intro h2
      have h2 : k < s.length := by simpa using h2
      obtain ⟨b1, b2⟩ := letters_mem hlet h2
      have hsn := map_snoc (fun j => ent c (s.getD m 0).toNat j.toNat) s 0 k h2
      refine Run.nq ?_; refine Run.regionD hC true [0,1,2,3,4,5,6,7,8,9,10,11,12,13,14,15,16] (by kernel_rfl) (fun K hK => ?_); simp only [AW6, simprocAttr, hX]; (repeat (with_reducible refine And.intro ?_ ?_); exact vc0)
      (repeat (with_reducible refine And.intro ?_ ?_); exact vc0); refine hK _ ?_; clear hK K; refine Run.nq ?_
      refine Run.nq ?_; refine Run.regionW hC (fun K hK => ?_); simp (disch := omega) only [wrap_id, AW6, simprocAttr, hX]; (repeat (with_reducible refine And.intro ?_ ?_); exact vc0); refine hK _ ?_; clear hK K; refine Run.nq ?_
      refine Run.reK hpin [0, 1, 4, 5, 6, 7, 8, 9] [0, 1] (by decide) (by simp) ?_; simp only [AR, AW6, simprocAttr]
      refine Run.le ?_ (ih2 (k + 1) (by omega) (by omega))
      exact Le.sub (by rw [← hsn]) (by simp only [AW6, simprocAttr]; try simp)
    · intro h2
      have h2 : k = s.length := by simp at h2; omega
      subst h2
      rw [List.take_length]
      refine Run.exit rfl ?_; refine Run.nq ?_
      refine Run.nq ?_; refine Run.regionW hC (fun K hK => ?_); simp only [AW6, simprocAttr, hX]; (repeat (with_reducible refine And.intro ?_ ?_); exact vc0)
      intro l hl
      (try simp only [AW6, simprocAttr, hX]); (repeat (with_reducible refine And.intro ?_ ?_); exact vc0)
      (repeat (with_reducible refine And.intro ?_ ?_); exact vc0); refine hK _ ?_; clear hK K; refine Run.nq ?_
      refine Run.nq ?_; refine Run.regionW hC (fun K hK => ?_); simp (disch := omega) only [wrap_id, AW6, simprocAttr, hX]; (repeat (with_reducible refine And.intro ?_ ?_); exact vc0); refine hK _ ?_; clear hK K; refine Run.nq ?_
      refine Run.reK hpin [0, 1, 4, 5, 6, 7] [0] (by decide) (by simp) ?_; simp only [AR, AW6, simprocAttr]
      refine Run.le ?_ (ih (m + 1, ys ++ [(l, rowP c s (s.getD m 0))]) ⟨h, by simp only [List.map_append, hy, List.map_cons, List.map_nil]; exact map_snoc (rowP c s) s 0 m h⟩ (by simp only []; omega))
      exact Le.sub (by rfl) (by simp only [AW6, simprocAttr]; try simp)
  · intro h
    have h : m = s.length := by simp at h; omega
    subst h
    rw [List.take_length] at hy
    refine Run.exit rfl ?_; refine Run.nq ?_
    refine Run.nq ?_; refine Run.regionW hC (fun K hK => ?_); simp only [AW6, simprocAttr, hX]; (repeat (with_reducible refine And.intro ?_ ?_); exact vc0); refine hK _ ?_; clear hK K; refine Run.nq ?_
    refine Run.retW [4, 5] (by decide) (by rw [hfn]; rfl) (by simp only [AW6, simprocAttr, hX]; rfl) (by simp only [AW6, simprocAttr, hX]) (hfin _ _ rfl rfl ?_)
    exact ⟨rfl, ys, hy, rfl⟩

theorem c_spec_l4Without (n j : Nat) (m : List (List Int)) (hn : n + 1 ≤ 4) (hm : Sq (n + 1) m) (hj : j < n + 1) :
    FunA B 113 [.sl false (.row false) m, .int .i64 j] (fun rs o => rs = [.own 0 0] ∧ ∃ ys, ys.map (·.2) = minorL m j ∧ o = [.arr .lrow ys 0 true]) := by
  have hml := hm.1
  have htn : (m.drop 1).length = n := by simp [hml]
  refine FunA.walk B_ok (fn := Try.f113) (fun vs w => Try.call113 vs w) Try.func113 rfl (by rw [Try.ntmps113]; simp) (fun C hC hP hT hΓ hbt hfn hpin hfin => ?_); have hX := BX; rw [← hΓ, ← hbt.1, ← hbt.2] at hX; rw [Try.ntmps113]; simp only [AW6, simprocAttr, hX]
  refine Run.nq ?_; refine Run.regionW hC (fun K hK => ?_); simp only [AW6, simprocAttr, hX]; (repeat (with_reducible refine And.intro ?_ ?_); exact vc0); refine hK _ ?_; clear hK K; refine Run.nq ?_
  refine Run.nq ?_; refine Run.regionW hC (fun K hK => ?_); simp only [AW6, simprocAttr, hX]; (repeat (with_reducible refine And.intro ?_ ?_); exact vc0); refine hK _ ?_; clear hK K; refine Run.nq ?_
  refine Run.nq ?_; refine Run.regionW hC (fun K hK => ?_); simp only [AW6, simprocAttr, hX]; (repeat (with_reducible refine And.intro ?_ ?_); exact vc0); refine hK _ ?_; clear hK K; refine Run.nq ?_
  refine Run.le (Le.sub (fr' := [(0, true, .v (.sl false (.row false) m)), (1, true, .v (.int .i64 j)), (4, true, .v .nils), (5, true, .v (.own 0 0)), (6, true, .v (.int .i64 ((0 + 1 : Nat))))]) rfl (by simp only [AW6, simprocAttr]; try simp)) ?_
  refine Run.loopI (X := Nat × List (Nat × List Int)) (fun k => ⟨41, [(0, true, .v (.sl false (.row false) (m))), (1, true, .v (.int .i64 (j))), (4, true, .v (.nils)), (5, true, .v (.own 0 0)), (6, true, .v (.int .i64 (((k.1 + 1 : Nat)))))], [.arr .lrow (k.2) 0 true]⟩) (fun k => k.1 ≤ n ∧ k.2.map (·.2) = ((m.drop 1).take k.1).map (fun r => r.take j ++ r.drop (j + 1))) (fun k => n - k.1) ((0, [])) (⟨Nat.zero_le _, rfl⟩) ?_ ?_
  · exact Le.sub (by first | rfl | simp) (by simp only [AW6, simprocAttr, hX]; try simp <;> try (first | rfl | exact ⟨rfl, rfl⟩ | exact ⟨rfl, rfl, rfl⟩))
  rintro ⟨k, ys⟩ ⟨hk, hy⟩ ih
  try simp only []
  simp only [] at hk hy
  have hyl : ys.length = k := by have := congrArg List.length hy; simp at this; omega
  refine Run.nq ?_; refine Run.regionW hC (fun K hK => ?_); simp only [AW6, simprocAttr, hX]; (repeat (with_reducible refine And.intro ?_ ?_); exact vc0); refine hK _ ?_; clear hK K; refine Run.nq ?_
  refine Run.nq ?_; refine Run.condW (by simp only [AW6, simprocAttr, hX]; rfl) (by simp only [AW6, simprocAttr, hX]) ?_ ?_
  · intro h
    have h : k < n := by simp [hml] at h; omega
    have hmem : m.getD (k + 1) [] ∈ m := by simp [List.getD_eq_getElem?_getD, show k + 1 < m.length by omega]
    have hrl := (hm.2 _ hmem).1
    have hgd : (m.drop 1).getD k [] = m.getD (k + 1) [] := by simp [List.getD_eq_getElem?_getD, List.getElem?_drop, Nat.add_comm]
    generalize hr : m.getD (k + 1) [] = r at hrl hgd
    refine Run.nq ?_; refine Run.regionW hC (fun K hK => ?_); simp only [AW6, simprocAttr, hX]; (repeat (with_reducible refine And.intro ?_ ?_); exact vc0); refine hK _ ?_; clear hK K; refine Run.nq ?_
    refine Run.nq ?_; refine Run.regionW hC (fun K hK => ?_); simp only [AW6, simprocAttr, hX]; (repeat (with_reducible refine And.intro ?_ ?_); exact vc0); refine hK _ ?_; clear hK K; refine Run.nq ?_
    refine Run.reK hpin [0, 1, 4, 5, 6, 7, 8] [0, 1] (by decide) (by simp) ?_; simp only [AR, AW6, simprocAttr]
    refine Run.loopI (X := Nat) (fun q => ⟨41, [(0, true, .v (.sl false (.row false) (m))), (1, true, .v (.int .i64 (j))), (4, true, .v (.nils)), (5, true, .v (.own 0 0)), (6, true, .v (.int .i64 (((k + 1 : Nat))))), (7, true, .v (.own 1 0)), (8, true, .v (.int .i64 (q)))], [.arr .lrow (ys) 0 true, .arr .int (((r.take (min q j)) ++ (r.take q).drop (j + 1))) 0 true]⟩) (fun q => q ≤ n + 1) (fun q => n + 1 - q) (0) (Nat.zero_le _) ?_ ?_
    · exact Le.sub (by first | rfl | simp) (by simp only [AW6, simprocAttr, hX]; try simp <;> try (first | rfl | exact ⟨rfl, rfl⟩ | exact ⟨rfl, rfl, rfl⟩))
    rintro q hq ih2
    try simp only []
    have hlen : ((r.take (min q j)) ++ (r.take q).drop (j + 1)).length ≤ 8 := by simp; omega
    refine Run.nq ?_; refine Run.regionW hC (fun K hK => ?_); simp only [AW6, simprocAttr, hX]; (repeat (with_reducible refine And.intro ?_ ?_); exact vc0); refine hK _ ?_; clear hK K; refine Run.nq ?_
    refine Run.nq ?_; refine Run.condW (by simp only [AW6, simprocAttr, hX]; rfl) (by simp only [AW6, simprocAttr, hX]) ?_ ?_
    · intro h2
      have h2 : q < n + 1 := by simp [hml] at h2; omega
      refine Run.nq ?_; refine Run.regionW hC (fun K hK => ?_); simp only [AW6, simprocAttr, hX]; (repeat (with_reducible refine And.intro ?_ ?_); exact vc0); refine hK _ ?_; clear hK K; refine Run.nq ?_
      refine Run.nq ?_; refine Run.condW (by simp only [AW6, simprocAttr, hX]; rfl) (by simp only [AW6, simprocAttr, hX]) ?_ ?_
      · intro hqj
        have hqj : q ≠ j := fun h => by simp [h] at hqj
        have e : ((r.take (min q j)) ++ (r.take q).drop (j + 1)) ++ [r.getD q 0] = (r.take (min (q + 1) j)) ++ (r.take (q + 1)).drop (j + 1) := by
          have h3 := take_snoc 0 r q (by omega)
          rcases Nat.lt_or_ge q j with h4 | h4
          · rw [show min q j = q by omega, show min (q + 1) j = q + 1 by omega, ← h3]
            rw [List.drop_eq_nil_of_le (by simp; omega), List.drop_eq_nil_of_le (by simp; omega)]
            simp
          · rw [show min q j = j by omega, show min (q + 1) j = j by omega, ← h3, List.append_assoc]
            congr 1
            rw [List.drop_append_of_le_length (by simp; omega)]
        refine Run.nq ?_; refine Run.regionW hC (fun K hK => ?_); simp only [AW6, simprocAttr, hX]; (repeat (with_reducible refine And.intro ?_ ?_); exact vc0); refine hK _ ?_; clear hK K; refine Run.nq ?_
        rw [hr, e]
        refine Run.nq ?_; refine Run.regionW hC (fun K hK => ?_); simp (disch := omega) only [wrap_id, AW6, simprocAttr, hX]; (repeat (with_reducible refine And.intro ?_ ?_); exact vc0); refine hK _ ?_; clear hK K; refine Run.nq ?_
        refine Run.reK hpin [0, 1, 4, 5, 6, 7, 8] [0, 1] (by decide) (by simp) ?_; simp only [AR, AW6, simprocAttr]
        refine Run.le ?_ (ih2 (q + 1) (by omega) (by omega))
        exact Le.sub (by rfl) (by simp only [AW6, simprocAttr]; try simp)
      · intro hqj
        have hqj : q = j := by simp at hqj; omega
        have e : (r.take (min q j)) ++ (r.take q).drop (j + 1) = (r.take (min (q + 1) j)) ++ (r.take (q + 1)).drop (j + 1) := by
          rw [show min q j = j by omega, show min (q + 1) j = j by omega, List.drop_eq_nil_of_le (by simp; omega), List.drop_eq_nil_of_le (by simp; omega)]
        rw [e]
        refine Run.nq ?_; refine Run.regionW hC (fun K hK => ?_); simp (disch := omega) only [wrap_id, AW6, simprocAttr, hX]; (repeat (with_reducible refine And.intro ?_ ?_); exact vc0); refine hK _ ?_; clear hK K; refine Run.nq ?_
        refine Run.le ?_ (ih2 (q + 1) (by omega) (by omega))
        exact Le.sub (by rfl) (by simp only [AW6, simprocAttr]; try simp)
    · intro h2
      have h2 : q = n + 1 := by simp [hml] at h2; omega
      have e : (r.take (min q j)) ++ (r.take q).drop (j + 1) = r.take j ++ r.drop (j + 1) := by
        have ht : r.take q = r := List.take_of_length_le (by omega)
        rw [show min q j = j by omega, ht]
      rw [e]
      refine Run.exit rfl ?_; refine Run.nq ?_
      refine Run.nq ?_; refine Run.regionW hC (fun K hK => ?_); simp only [AW6, simprocAttr, hX]; (repeat (with_reducible refine And.intro ?_ ?_); exact vc0)
      intro l hl
      (try simp only [AW6, simprocAttr, hX]); (repeat (with_reducible refine And.intro ?_ ?_); exact vc0)
      (repeat (with_reducible refine And.intro ?_ ?_); exact vc0); refine hK _ ?_; clear hK K; refine Run.nq ?_
      refine Run.nq ?_; refine Run.regionW hC (fun K hK => ?_); simp (disch := omega) only [wrap_id, AW6, simprocAttr, hX]; (repeat (with_reducible refine And.intro ?_ ?_); exact vc0); refine hK _ ?_; clear hK K; refine Run.nq ?_
      refine Run.reK hpin [0, 1, 4, 5, 6] [0] (by decide) (by simp) ?_; simp only [AR, AW6, simprocAttr]
      refine Run.le ?_ (ih (k + 1, ys ++ [(l, r.take j ++ r.drop (j + 1))]) ⟨h, by simp only [List.map_append, hy, List.map_cons, List.map_nil]; rw [← hgd]; exact map_snoc (fun r : List Int => r.take j ++ r.drop (j + 1)) (m.drop 1) [] k (by omega)⟩ (by simp only []; omega))
      exact Le.sub (by rfl) (by simp only [AW6, simprocAttr]; try simp)
  · intro h
    have h : k = n := by simp [hml] at h; omega
    rw [List.take_of_length_le (by omega)] at hy
    refine Run.exit rfl ?_; refine Run.nq ?_
    refine Run.nq ?_; refine Run.regionW hC (fun K hK => ?_); simp only [AW6, simprocAttr, hX]; (repeat (with_reducible refine And.intro ?_ ?_); exact vc0); refine hK _ ?_; clear hK K; refine Run.nq ?_
    refine Run.retW [4] (by decide) (by rw [hfn]; rfl) (by simp only [AW6, simprocAttr, hX]; rfl) (by simp only [AW6, simprocAttr, hX]) (hfin _ _ rfl rfl ?_)
    exact ⟨rfl, ys, hy, rfl⟩

theorem c_spec_l4Det (n : Nat) : ∀ (m : List (List Int)), n ≤ 4 → Sq n m → FunA B 104 [.sl false (.row false) m] (fun rs o => rs = [.int .i64 (detN n m)] ∧ o = []) := by
  induction n with
  | zero =>
    intro m _ hm
    have hm0 : m = [] := List.eq_nil_of_length_eq_zero hm.1
    subst hm0
    refine FunA.walk B_ok (fn := Try.f104) (fun vs w => Try.call104 vs w) Try.func104 rfl (by rw [Try.ntmps104]; simp) (fun C hC hP hT hΓ hbt hfn hpin hfin => ?_); have hX := BX; rw [← hΓ, ← hbt.1, ← hbt.2] at hX; rw [Try.ntmps104]; simp only [AW6, simprocAttr, hX]
    refine Run.nq ?_; refine Run.regionW hC (fun K hK => ?_); simp only [AW6, simprocAttr, hX]; (repeat (with_reducible refine And.intro ?_ ?_); exact vc0); refine hK _ ?_; clear hK K; refine Run.nq ?_
    refine Run.nq ?_; refine Run.regionW hC (fun K hK => ?_); simp only [AW6, simprocAttr, hX]; (repeat (with_reducible refine And.intro ?_ ?_); exact vc0); refine hK _ ?_; clear hK K; refine Run.nq ?_
    refine Run.nq ?_; refine Run.condW (by simp only [AW6, simprocAttr, hX]; rfl) (by simp only [AW6, simprocAttr, hX]) ?_ ?_
    · intro h
      refine Run.nq ?_; refine Run.regionW hC (fun K hK => ?_); simp only [AW6, simprocAttr, hX]; (repeat (with_reducible refine And.intro ?_ ?_); exact vc0); refine hK _ ?_; clear hK K; refine Run.nq ?_
      refine Run.retW [2] (by decide) (by rw [hfn]; rfl) (by simp only [AW6, simprocAttr, hX]; rfl) (by simp only [AW6, simprocAttr, hX]) (hfin _ _ rfl rfl ?_)
      exact ⟨rfl, rfl⟩
    · intro h
      simp at h
  | succ n ihn =>
    intro m hn hm
    have hml := hm.1
    refine FunA.walk B_ok (fn := Try.f104) (fun vs w => Try.call104 vs w) Try.func104 rfl (by rw [Try.ntmps104]; simp) (fun C hC hP hT hΓ hbt hfn hpin hfin => ?_); have hX := BX; rw [← hΓ, ← hbt.1, ← hbt.2] at hX; rw [Try.ntmps104]; simp only [AW6, simprocAttr, hX]
    refine Run.nq ?_; refine Run.regionW hC (fun K hK => ?_); simp only [AW6, simprocAttr, hX]; (repeat (with_reducible refine And.intro ?_ ?_); exact vc0); refine hK _ ?_; clear hK K; refine Run.nq ?_
    refine Run.nq ?_; refine Run.regionW hC (fun K hK => ?_); simp only [AW6, simprocAttr, hX]; (repeat (with_reducible refine And.intro ?_ ?_); exact vc0); refine hK _ ?_; clear hK K; refine Run.nq ?_
    refine Run.nq ?_; refine Run.condW (by simp only [AW6, simprocAttr, hX]; rfl) (by simp only [AW6, simprocAttr, hX]) ?_ ?_
    · intro h
      simp [hml] at h
      omega
    intro h
    clear h
    have hr0 := (det_term hm hn 0 (by omega)).2.2.2
    have hS0 : detS n m 0 = 0 := rfl
    refine Run.nq ?_; refine Run.regionW hC (fun K hK => ?_); simp only [AW6, simprocAttr, hX]; (repeat (with_reducible refine And.intro ?_ ?_); exact vc0); refine hK _ ?_; clear hK K; refine Run.nq ?_
    refine Run.nq ?_; refine Run.regionW hC (fun K hK => ?_); simp only [AW6, simprocAttr, hX]; (repeat (with_reducible refine And.intro ?_ ?_); exact vc0); refine hK _ ?_; clear hK K; refine Run.nq ?_
    refine Run.le (Le.sub (fr' := [(0, true, .v (.sl false (.row false) m)), (2, true, .v (.int .i64 0)), (3, true, .v (.int .i64 (detS n m 0))), (4, true, .v (.int .i64 (0 : Nat)))]) rfl (by simp only [AW6, simprocAttr]; simp [hS0])) ?_
    refine Run.loopI (X := Nat) (fun j => ⟨35, [(0, true, .v (.sl false (.row false) (m))), (2, true, .v (.int .i64 (0))), (3, true, .v (.int .i64 ((detS n m j)))), (4, true, .v (.int .i64 (j)))], []⟩) (fun j => j ≤ n + 1) (fun j => n + 1 - j) (0) (Nat.zero_le _) ?_ ?_
    · exact Le.sub (by first | rfl | simp) (by simp only [AW6, simprocAttr, hX]; try simp <;> try (first | rfl | exact ⟨rfl, rfl⟩ | exact ⟨rfl, rfl, rfl⟩))
    rintro j hj ih
    try simp only []
    refine Run.nq ?_; refine Run.regionW hC (fun K hK => ?_); simp only [AW6, simprocAttr, hX]; (repeat (with_reducible refine And.intro ?_ ?_); exact vc0); refine hK _ ?_; clear hK K; refine Run.nq ?_
    refine Run.nq ?_; refine Run.condW (by simp only [AW6, simprocAttr, hX]; rfl) (by simp only [AW6, simprocAttr, hX]) ?_ ?_
    · intro h
      have h : j < n + 1 := by simp [hml] at h; omega
      obtain ⟨t1, t2, t3, t4⟩ := det_term hm hn j h
      obtain ⟨d1, d2⟩ := detS_le hm hn j (by omega)
      obtain ⟨e1, e2⟩ := detS_le hm hn (j + 1) (by omega)
      have hsn := detS_succ n m j
      have hsq := hm.minor j h
      have hsc : sgn j = if (j : Int) % 2 = 1 then -1 else 1 := by unfold sgn; split <;> split <;> first | rfl | omega
      refine Run.nq ?_; refine Run.regionD hC true [0,1,2,3,4,5,6,7,8,9,10,11] (by kernel_rfl) (fun K hK => ?_); simp (disch := omega) only [wrap_id, AW6, simprocAttr, hX]; (repeat (with_reducible refine And.intro ?_ ?_); exact vc0)
      refine FunA.callD hP hT (c_spec_l4Without n j m hn hm h) (by simp only [AW6, simprocAttr]) ?_
      rintro rs o ⟨rfl, ys, hy, rfl⟩
      (try simp only [AW6, simprocAttr, hX]); (repeat (with_reducible refine And.intro ?_ ?_); exact vc0)
      refine FunA.callD hP hT (ihn (minorL m j) (by omega) hsq) (by simp only [AW6, simprocAttr]; exact hy.symm) ?_
      rintro rs o ⟨rfl, rfl⟩
      simp (disch := omega) only [wrap_id, AW6, simprocAttr, hX]
      (repeat (with_reducible refine And.intro ?_ ?_); exact vc0)
      (repeat (with_reducible refine And.intro ?_ ?_); exact vc0); refine hK _ ?_; clear hK K; refine Run.nq ?_
      refine Run.keep [0, 2, 3, 4, 5] ?_; simp only [AK, Nat.reduceBEq]
      refine Run.nq ?_; refine Run.regionW hC (fun K hK => ?_); simp only [AW6, simprocAttr, hX]; (repeat (with_reducible refine And.intro ?_ ?_); exact vc0); refine hK _ ?_; clear hK K; refine Run.nq ?_
      refine Run.nq ?_; refine Run.condW (by simp only [AW6, simprocAttr, hX]; rfl) (by simp only [AW6, simprocAttr, hX]) ?_ ?_
      · intro h2
        have h2 : (j : Int).tmod 2 = 1 := by simpa using h2
        rw [Int.tmod_eq_emod_of_nonneg (by omega)] at h2
        rw [if_pos h2] at hsc
        rw [hsc, Int.neg_mul, Int.one_mul, Int.neg_mul] at hsn
        refine Run.nq ?_; refine Run.regionW hC (fun K hK => ?_); simp (disch := omega) only [wrap_id, AW6, simprocAttr, hX]; (repeat (with_reducible refine And.intro ?_ ?_); exact vc0); refine hK _ ?_; clear hK K; refine Run.nq ?_
        refine Run.nq ?_; refine Run.regionW hC (fun K hK => ?_); simp (disch := omega) only [wrap_id, AW6, simprocAttr, hX]; (repeat (with_reducible refine And.intro ?_ ?_); exact vc0); refine hK _ ?_; clear hK K; refine Run.nq ?_
        rw [show detS n m j + (0 - (m.getD 0 []).getD j 0 * detN n (minorL m j)) = detS n m (j + 1) by rw [hsn]; omega]
        refine Run.nq ?_; refine Run.regionW hC (fun K hK => ?_); simp (disch := omega) only [wrap_id, AW6, simprocAttr, hX]; (repeat (with_reducible refine And.intro ?_ ?_); exact vc0); refine hK _ ?_; clear hK K; refine Run.nq ?_
        refine Run.reK hpin [0, 2, 3, 4] [] (by decide) (by simp) ?_; simp only [AR, AW6, simprocAttr]
        refine Run.le ?_ (ih (j + 1) (by omega) (by omega))
        exact Le.sub (by rfl) (by simp only [AW6, simprocAttr]; try simp)
      · intro h2
        have h2 : ¬ (j : Int).tmod 2 = 1 := by simpa using h2
        rw [Int.tmod_eq_emod_of_nonneg (by omega)] at h2
        rw [if_neg h2] at hsc
        rw [hsc, Int.one_mul] at hsn
        refine Run.nq ?_; refine Run.regionW hC (fun K hK => ?_); simp (disch := omega) only [wrap_id, AW6, simprocAttr, hX]; (repeat (with_reducible refine And.intro ?_ ?_); exact vc0); refine hK _ ?_; clear hK K; refine Run.nq ?_
        rw [← hsn]
        refine Run.nq ?_; refine Run.regionW hC (fun K hK => ?_); simp (disch := omega) only [wrap_id, AW6, simprocAttr, hX]; (repeat (with_reducible refine And.intro ?_ ?_); exact vc0); refine hK _ ?_; clear hK K; refine Run.nq ?_
        refine Run.reK hpin [0, 2, 3, 4] [] (by decide) (by simp) ?_; simp only [AR, AW6, simprocAttr]
        refine Run.le ?_ (ih (j + 1) (by omega) (by omega))
        exact Le.sub (by rfl) (by simp only [AW6, simprocAttr]; try simp)
    · intro h
      have h : j = n + 1 := by simp [hml] at h; omega
      subst h
      refine Run.exit rfl ?_; refine Run.nq ?_
      refine Run.nq ?_; refine Run.regionW hC (fun K hK => ?_); simp only [AW6, simprocAttr, hX]; (repeat (with_reducible refine And.intro ?_ ?_); exact vc0); refine hK _ ?_; clear hK K; refine Run.nq ?_
      refine Run.retW [2] (by decide) (by rw [hfn]; rfl) (by simp only [AW6, simprocAttr, hX]; rfl) (by simp only [AW6, simprocAttr, hX]) (hfin _ _ rfl rfl ?_)
      exact ⟨rfl, rfl⟩

theorem setL_set : ∀ k : Nat, k < 16 → ∀ i : Nat, i < (setL k).length → 0 ≤ (setL k).getD i 0 ∧ (0 < i → (setL k).getD (i - 1) 0 < (setL k).getD i 0) := by decide
theorem setL_setP {n k : Nat} (hn : n ≤ 4) (hk : k < 2 ^ n) : setP n (setL k) := by
  have hpw := pow_le16 n hn
  intro i hi
  obtain ⟨h1, h2⟩ := setL_set k (by omega) i hi
  exact ⟨h1, (setL_letters k (by omega) n hn hk _ (getD_mem hi)).2, h2⟩

theorem c_spec_WitnessOf (c : List (List Int)) : FunA B 82 [.sl false (.row false) c] (fun rs o => ∃ xs, (xs = [] ↔ ∀ k, k < (pmin c).length → 0 < (pmin c).getD k 0) ∧ xs.length ≤ 4 ∧ rs = [.sl true .int xs] ∧ o = []) := by
  refine FunA.walk B_ok (fn := Try.f82) (fun vs w => Try.call82 vs w) Try.func82 rfl (by rw [Try.ntmps82]; simp) (fun C hC hP hT hΓ hbt hfn hpin hfin => ?_); have hX := BX; rw [← hΓ, ← hbt.1, ← hbt.2] at hX; rw [Try.ntmps82]; simp only [AW6, simprocAttr, hX]
  refine Run.nq ?_; refine Run.regionW hC (fun K hK => ?_); simp only [AW6, simprocAttr, hX]; (repeat (with_reducible refine And.intro ?_ ?_); exact vc0); refine hK _ ?_; clear hK K; refine Run.nq ?_
  refine Run.nq ?_; refine Run.regionW hC (fun K hK => ?_); simp only [AW6, simprocAttr, hX]; (repeat (with_reducible refine And.intro ?_ ?_); exact vc0)
  refine FunA.callW hP hT (c_spec_IsCartan c) (by simp only [AW6, simprocAttr]) ?_
  rintro rs o ⟨rfl, rfl⟩
  (try simp only [AW6, simprocAttr, hX]); (repeat (with_reducible refine And.intro ?_ ?_); exact vc0)
  (repeat (with_reducible refine And.intro ?_ ?_); exact vc0); refine hK _ ?_; clear hK K; refine Run.nq ?_
  refine Run.nq ?_; refine Run.condW (by simp only [AW6, simprocAttr, hX]; rfl) (by simp only [AW6, simprocAttr, hX]) ?_ ?_
  · intro hb
    have hb : isC c = false := by simpa using hb
    have hp : pmin c = [] := by simp [pmin, hb]
    refine Run.nq ?_; refine Run.regionW hC (fun K hK => ?_); simp only [AW6, simprocAttr, hX]; (repeat (with_reducible refine And.intro ?_ ?_); exact vc0); refine hK _ ?_; clear hK K; refine Run.nq ?_
    refine Run.le (Le.letgo 0 (g := 0) (e := .int) (xs := []) (nn := true) [(2, true, .sl true .int [])] rfl ⟨.inr ⟨rfl, rfl⟩, trivial⟩) ?_
    simp only [frV_cons, frV_nil]
    refine Run.reK hpin [2] [] (by decide) (by simp) ?_; simp only [AR, AW6, simprocAttr]
    refine Run.retW [2] (by decide) (by rw [hfn]; rfl) (by simp only [AW6, simprocAttr, hX]; rfl) (by simp only [AW6, simprocAttr, hX]) (hfin _ _ rfl rfl ?_)
    exact ⟨[], by simp [hp], by simp, rfl, rfl⟩
  · intro hb
    have hb : isC c = true := by simpa using hb
    have hc := isC_iff.1 hb
    have hn := hc.2.1
    have hn1 := hc.1
    have hpw := pow_le16 c.length hn
    have hp1 : 1 ≤ 2 ^ c.length := Nat.one_le_two_pow
    have hp : pmin c = minors c (2 ^ c.length - 1) := by simp [pmin, hb]
    have hpl : (pmin c).length = 2 ^ c.length - 1 := by rw [hp, minors_len]
    refine Run.nq ?_; refine Run.regionW hC (fun K hK => ?_); simp only [AW6, simprocAttr, hX]; (repeat (with_reducible refine And.intro ?_ ?_); exact vc0)
    refine FunA.callW hP hT (c_spec_l4Sets c.length hn) (by simp only [AW6, simprocAttr]) ?_
    rintro rs o ⟨rfl, ys, hy, rfl⟩
    have hyl : ys.length = 2 ^ c.length - 1 := by have := congrArg List.length hy; simpa [setsL_len] using this
    (try simp only [AW6, simprocAttr, hX]); (repeat (with_reducible refine And.intro ?_ ?_); exact vc0)
    (repeat (with_reducible refine And.intro ?_ ?_); exact vc0); refine hK _ ?_; clear hK K; refine Run.nq ?_
    refine Run.nq ?_; refine Run.regionW hC (fun K hK => ?_); simp only [AW6, simprocAttr, hX]; (repeat (with_reducible refine And.intro ?_ ?_); exact vc0); refine hK _ ?_; clear hK K; refine Run.nq ?_
    refine Run.loopI (X := Nat) (fun k => ⟨37, [(0, true, .v (.sl false (.row false) (c))), (2, true, .v (.nils)), (3, true, .v (.own 0 0)), (4, true, .v (.int .i64 (k)))], [.arr .lrow (ys) 0 true]⟩) (fun k => k ≤ ys.length ∧ ∀ j, j < k → 0 < (pmin c).getD j 0) (fun k => ys.length - k) (0) (⟨Nat.zero_le _, fun j hj => by omega⟩) ?_ ?_
    · exact Le.sub (by first | rfl | simp) (by simp only [AW6, simprocAttr, hX]; try simp <;> try (first | rfl | exact ⟨rfl, rfl⟩ | exact ⟨rfl, rfl, rfl⟩))
    rintro k ⟨hk, hpos⟩ ih
    try simp only []
    refine Run.nq ?_; refine Run.regionW hC (fun K hK => ?_); simp only [AW6, simprocAttr, hX]; (repeat (with_reducible refine And.intro ?_ ?_); exact vc0); refine hK _ ?_; clear hK K; refine Run.nq ?_
    refine Run.nq ?_; refine Run.condW (by simp only [AW6, simprocAttr, hX]; rfl) (by simp only [AW6, simprocAttr, hX]) ?_ ?_
    · intro h
      have h : k < ys.length := by simpa using h
      obtain ⟨l, xs, hlx⟩ : ∃ l xs, ys.getD k (0, []) = (l, xs) := ⟨_, _, rfl⟩
      have hxs : xs = setL (k + 1) := by
        have h1 : (ys.map (·.2)).getD k [] = xs := by
          have := congrArg Prod.snd hlx
          simp only [List.getD_eq_getElem?_getD, List.getElem?_map, List.getElem?_eq_getElem h] at this ⊢
          simpa using this
        rw [hy, setsL_get _ _ (by omega)] at h1
        exact h1.symm
      have hset := setL_setP hn (k := k + 1) (by omega)
      have hne := setL_ne (k + 1) (by omega) (by omega)
      have hsq := pick_sq hc (set_letters hset)
      have hll := setL_len (k + 1) (by omega)
      have hmn : (pmin c).getD k 0 = detN (setL (k + 1)).length (pick c (setL (k + 1))) := by rw [hp, minors_get _ _ _ (by omega)]; rfl
      subst hxs
      refine Run.nq ?_; refine Run.regionW hC (fun K hK => ?_); simp only [AW6, simprocAttr, hX]; (repeat (with_reducible refine And.intro ?_ ?_); exact vc0)
      simp only [hlx, AW6, simprocAttr, hX]
      (repeat (with_reducible refine And.intro ?_ ?_); exact vc0)
      refine FunA.callW hP hT (c_spec_SubCartan c (setL (k + 1)) hc hset hne) (by simp only [AW6, simprocAttr]) ?_
      rintro rs o ⟨rfl, zs, hz, rfl⟩
      (try simp only [AW6, simprocAttr, hX]); (repeat (with_reducible refine And.intro ?_ ?_); exact vc0)
      (repeat (with_reducible refine And.intro ?_ ?_); exact vc0); refine hK _ ?_; clear hK K; refine Run.nq ?_
      refine Run.nq ?_; refine Run.regionW hC (fun K hK => ?_); simp only [AW6, simprocAttr, hX]; (repeat (with_reducible refine And.intro ?_ ?_); exact vc0)
      refine FunA.callW hP hT (c_spec_l4Det (setL (k + 1)).length (pick c (setL (k + 1))) hll hsq) (by simp only [AW6, simprocAttr]; exact hz.symm) ?_
      rintro rs o ⟨rfl, rfl⟩
      (try simp only [AW6, simprocAttr, hX]); (repeat (with_reducible refine And.intro ?_ ?_); exact vc0)
      (repeat (with_reducible refine And.intro ?_ ?_); exact vc0); refine hK _ ?_; clear hK K; refine Run.nq ?_
      rw [← hmn]
      refine Run.nq ?_; refine Run.condW (by simp only [AW6, simprocAttr, hX]; rfl) (by simp only [AW6, simprocAttr, hX]) ?_ ?_
      · intro h2
        have h2 : (pmin c).getD k 0 ≤ 0 := by simpa using h2
        refine Run.nq ?_; refine Run.regionW hC (fun K hK => ?_); simp only [AW6, simprocAttr, hX]; (repeat (with_reducible refine And.intro ?_ ?_); exact vc0)
        simp only [hlx, ofE, AW6, simprocAttr, hX]
        (repeat (with_reducible refine And.intro ?_ ?_); exact vc0)
        (repeat (with_reducible refine And.intro ?_ ?_); exact vc0); refine hK _ ?_; clear hK K; refine Run.nq ?_
        refine Run.le (Le.re (obs' := []) hpin [] [(2, true, .sl true .int (setL (k + 1)))] rfl trivial (by refine ⟨⟨_, rfl, ?_⟩, trivial⟩ <;> simp [leAV])) ?_
        simp only [frV_cons, frV_nil]
        refine Run.retW [2] (by decide) (by rw [hfn]; rfl) (by simp only [AW6, simprocAttr, hX]; rfl) (by simp only [AW6, simprocAttr, hX]) (hfin _ _ rfl rfl ?_)
        refine ⟨_, ⟨fun he => absurd he hne, fun hall => ?_⟩, hll, rfl, rfl⟩
        have := hall k (by omega)
        omega
      · intro h2
        have h2 : 0 < (pmin c).getD k 0 := by simp at h2; simpa [List.getD_eq_getElem?_getD] using h2
        refine Run.nq ?_; refine Run.regionW hC (fun K hK => ?_); simp (disch := omega) only [wrap_id, AW6, simprocAttr, hX]; (repeat (with_reducible refine And.intro ?_ ?_); exact vc0); refine hK _ ?_; clear hK K; refine Run.nq ?_
        refine Run.reK hpin [0, 2, 3, 4] [0] (by decide) (by simp) ?_; simp only [AR, AW6, simprocAttr]
        refine Run.le ?_ (ih (k + 1) ⟨h, fun j hj => by rcases Nat.lt_or_ge j k with q | q; exact hpos j q; rw [show j = k by omega]; exact h2⟩ (by omega))
        exact Le.sub (by rfl) (by simp only [AW6, simprocAttr]; try simp)
    · intro h
      have h : k = ys.length := by simp at h; omega
      subst h
      refine Run.exit rfl ?_; refine Run.nq ?_
      refine Run.nq ?_; refine Run.regionW hC (fun K hK => ?_); simp only [AW6, simprocAttr, hX]; (repeat (with_reducible refine And.intro ?_ ?_); exact vc0); refine hK _ ?_; clear hK K; refine Run.nq ?_
      refine Run.le (Le.letgo 1 (g := 0) (e := .int) (xs := []) (nn := true) [(2, true, .sl true .int [])] rfl ⟨.inr ⟨rfl, rfl⟩, trivial⟩) ?_
      simp only [frV_cons, frV_nil]
      refine Run.reK hpin [2] [] (by decide) (by simp) ?_; simp only [AR, AW6, simprocAttr]
      refine Run.retW [2] (by decide) (by rw [hfn]; rfl) (by simp only [AW6, simprocAttr, hX]; rfl) (by simp only [AW6, simprocAttr, hX]) (hfin _ _ rfl rfl ?_)
      exact ⟨[], ⟨fun _ q hq => hpos q (by omega), fun _ => rfl⟩, by simp, rfl, rfl⟩

theorem c_spec_IsFinite (c : List (List Int)) : FunA B 65 [.sl false (.row false) c] (fun rs o => rs = [.bool (isF c)] ∧ o = []) := by
  refine FunA.walk B_ok (fn := Try.f65) (fun vs w => Try.call65 vs w) Try.func65 rfl (by rw [Try.ntmps65]; simp) (fun C hC hP hT hΓ hbt hfn hpin hfin => ?_); have hX := BX; rw [← hΓ, ← hbt.1, ← hbt.2] at hX; rw [Try.ntmps65]; simp only [AW6, simprocAttr, hX]
  refine Run.nq ?_; refine Run.regionW hC (fun K hK => ?_); simp only [AW6, simprocAttr, hX]; (repeat (with_reducible refine And.intro ?_ ?_); exact vc0); refine hK _ ?_; clear hK K; refine Run.nq ?_
  refine Run.nq ?_; refine Run.regionW hC (fun K hK => ?_); simp only [AW6, simprocAttr, hX]; (repeat (with_reducible refine And.intro ?_ ?_); exact vc0)
  refine FunA.callW hP hT (c_spec_IsCartan c) (by simp only [AW6, simprocAttr]) ?_
  rintro rs o ⟨rfl, rfl⟩
  (try simp only [AW6, simprocAttr, hX]); (repeat (with_reducible refine And.intro ?_ ?_); exact vc0)
  cases hb : isC c with
  | false =>
    have hf := isF_not hb
    (try simp only [AW6, simprocAttr, hX]); (repeat (with_reducible refine And.intro ?_ ?_); exact vc0)
    refine .inl (CallG.off (.sl false .int []) ?_)
    (try simp only [AW6, simprocAttr, hX]); (repeat (with_reducible refine And.intro ?_ ?_); exact vc0)
    (repeat (with_reducible refine And.intro ?_ ?_); exact vc0); refine hK _ ?_; clear hK K; refine Run.nq ?_
    refine Run.retW [2] (by decide) (by rw [hfn]; rfl) (by simp only [AW6, simprocAttr, hX]; rfl) (by simp only [AW6, simprocAttr, hX]) (hfin _ _ rfl rfl ?_)
    simp [hf]
  | true =>
    refine .inr ⟨rfl, ?_⟩
    refine FunA.callW hP hT (c_spec_WitnessOf c) (by simp only [AW6, simprocAttr]) ?_
    rintro rs o ⟨xs, hxs, hl, rfl, rfl⟩
    have hf := isF_pmin hb hxs
    (try simp only [AW6, simprocAttr, hX]); (repeat (with_reducible refine And.intro ?_ ?_); exact vc0)
    (repeat (with_reducible refine And.intro ?_ ?_); exact vc0); refine hK _ ?_; clear hK K; refine Run.nq ?_
    refine Run.reK hpin [2] [] (by decide) (by simp) ?_; simp only [AR, AW6, simprocAttr]
    refine Run.retW [2] (by decide) (by rw [hfn]; rfl) (by simp only [AW6, simprocAttr, hX]; rfl) (by simp only [AW6, simprocAttr, hX]) (hfin _ _ rfl rfl ?_)
    simp [hf]
end Go.Proofs.Ytdhfonblpbpmmaa

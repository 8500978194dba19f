/- Words compared, by the program: a strict weak order. -/
import Derived.Test.YtdhfonblpbpmmaaEq
import Derived.Test.YtdhfonblpbpmmaaSrt2
set_option linter.unusedVariables false
set_option linter.unusedSimpArgs false
namespace Go.Proofs.Ytdhfonblpbpmmaa
open Go Go.Aw

theorem cmpN_lt_trans (p q r : List Int) : ∀ n i, cmpN p q n i < 0 → cmpN q r n i < 0 → cmpN p r n i < 0
  | 0, i, h, _ => by simp [cmpN] at h
  | n + 1, i, h1, h2 => by
    have ih := cmpN_lt_trans p q r n (i + 1)
    simp only [cmpN] at h1 h2 ⊢
    split at h1 <;> split at h2 <;> (try split at h1) <;> (try split at h2) <;> (try split) <;> (try split) <;> first | omega | (exact ih h1 h2) | (exfalso; omega)
theorem cmpN_ge_trans (p q r : List Int) : ∀ n i, 0 ≤ cmpN p q n i → 0 ≤ cmpN q r n i → 0 ≤ cmpN p r n i
  | 0, i, _, _ => by simp [cmpN]
  | n + 1, i, h1, h2 => by
    have ih := cmpN_ge_trans p q r n (i + 1)
    simp only [cmpN] at h1 h2 ⊢
    split at h1 <;> split at h2 <;> (try split at h1) <;> (try split at h2) <;> (try split) <;> (try split) <;> first | omega | (exact ih h1 h2) | (exfalso; omega)
theorem cmpN_self (p : List Int) : ∀ n i, cmpN p p n i = 0
  | 0, i => rfl
  | n + 1, i => by simp only [cmpN]; rw [if_neg (by omega), if_neg (by omega)]; exact cmpN_self p n (i + 1)
theorem cmpW_self (p : List Int) : cmpW p p = 0 := by unfold cmpW; rw [if_neg (by omega), if_neg (by omega)]; exact cmpN_self p _ 0
theorem cmpW_lt_trans {p q r : List Int} (h1 : cmpW p q < 0) (h2 : cmpW q r < 0) : cmpW p r < 0 := by
  unfold cmpW at *
  have ih := cmpN_lt_trans p q r p.length 0
  split at h1
  · split at h2
    · rw [if_pos (by omega)]; omega
    · split at h2
      · omega
      · rw [if_pos (by omega)]; omega
  · split at h1
    · omega
    · have e : p.length = q.length := by omega
      split at h2
      · rw [if_pos (by omega)]; omega
      · split at h2
        · omega
        · rw [if_neg (by omega), if_neg (by omega)]; rw [← e] at h2; exact ih h1 h2
theorem cmpW_ge_trans {p q r : List Int} (h1 : 0 ≤ cmpW p q) (h2 : 0 ≤ cmpW q r) : 0 ≤ cmpW p r := by
  unfold cmpW at *
  have ih := cmpN_ge_trans p q r p.length 0
  split at h1
  · omega
  · split at h1
    · split at h2
      · omega
      · split at h2
        · rw [if_neg (by omega), if_pos (by omega)]; omega
        · rw [if_neg (by omega), if_pos (by omega)]; omega
    · have e : p.length = q.length := by omega
      split at h2
      · omega
      · split at h2
        · rw [if_neg (by omega), if_pos (by omega)]; omega
        · rw [if_neg (by omega), if_neg (by omega)]; rw [← e] at h2; exact ih h1 h2
theorem cmpW_swo : Go.Sort.SWO (ltOf cmpW) := by
  refine ⟨fun x => ?_, fun x y z h1 h2 => ?_, fun x y z h1 h2 => ?_⟩
  · unfold ltOf; rw [cmpW_self]; rfl
  · unfold ltOf at *
    rw [decide_eq_true_eq] at *
    exact cmpW_lt_trans h1 h2
  · unfold ltOf at *
    rw [decide_eq_false_iff_not] at *
    have := cmpW_ge_trans (p := x) (q := y) (r := z) (by omega) (by omega)
    omega

def cmpI (a b : Int) : Int := if a < b then -1 else if a > b then 1 else 0
theorem c_isNaN (a : Int) : FunA B 101 [.int .i64 a] (fun rs o => rs = [.bool false] ∧ o = []) := by
  refine FunA.walk B_ok (fn := Try.f101) (fun vs w => Try.call101 vs w) Try.func101 rfl (by rw [Try.ntmps101]; simp) (fun C hC hP hT hΓ hbt hfn hpin hfin => ?_); have hX := BX; rw [← hΓ, ← hbt.1, ← hbt.2] at hX; rw [Try.ntmps101]; simp only [AW7, simprocAttr, hX]
  refine Run.nq ?_; refine Run.regionW hC (fun K hK => ?_); simp only [AW7, simprocAttr, hX]; (repeat (with_reducible refine And.intro ?_ ?_); exact vc0); refine hK _ ?_; clear hK K; refine Run.nq ?_
  refine Run.nq ?_; refine Run.regionW hC (fun K hK => ?_); simp only [AW7, simprocAttr, hX]; (repeat (with_reducible refine And.intro ?_ ?_); exact vc0); refine hK _ ?_; clear hK K; refine Run.nq ?_
  refine Run.retW [2] (by decide) (by rw [hfn]; rfl) (by simp only [AW7, simprocAttr, hX]; rfl) (by simp only [AW7, simprocAttr, hX]) (hfin _ _ rfl rfl ?_)
  exact ⟨by simp, rfl⟩
theorem c_cmpCompare (a b : Int) : FunA B 77 [.int .i64 a, .int .i64 b] (fun rs o => rs = [.int .i64 (cmpI a b)] ∧ o = []) := by
  refine FunA.walk B_ok (fn := Try.f77) (fun vs w => Try.call77 vs w) Try.func77 rfl (by rw [Try.ntmps77]; simp) (fun C hC hP hT hΓ hbt hfn hpin hfin => ?_); have hX := BX; rw [← hΓ, ← hbt.1, ← hbt.2] at hX; rw [Try.ntmps77]; simp only [AW7, simprocAttr, hX]
  refine Run.nq ?_; refine Run.regionW hC (fun K hK => ?_); simp only [AW7, simprocAttr, hX]; (repeat (with_reducible refine And.intro ?_ ?_); exact vc0); refine hK _ ?_; clear hK K; refine Run.nq ?_
  refine Run.nq ?_; refine Run.regionW hC (fun K hK => ?_); simp only [AW7, simprocAttr, hX]; (repeat (with_reducible refine And.intro ?_ ?_); exact vc0)
  refine FunA.callW hP hT (c_isNaN a) (by simp only [AW7, simprocAttr]) ?_
  rintro rs o ⟨rfl, rfl⟩
  (try simp only [AW7, simprocAttr, hX]); (repeat (with_reducible refine And.intro ?_ ?_); exact vc0)
  (repeat (with_reducible refine And.intro ?_ ?_); exact vc0); refine hK _ ?_; clear hK K; refine Run.nq ?_
  refine Run.nq ?_; refine Run.regionW hC (fun K hK => ?_); simp only [AW7, simprocAttr, hX]; (repeat (with_reducible refine And.intro ?_ ?_); exact vc0)
  refine FunA.callW hP hT (c_isNaN b) (by simp only [AW7, simprocAttr]) ?_
  rintro rs o ⟨rfl, rfl⟩
  (try simp only [AW7, simprocAttr, hX]); (repeat (with_reducible refine And.intro ?_ ?_); exact vc0)
  (repeat (with_reducible refine And.intro ?_ ?_); exact vc0); refine hK _ ?_; clear hK K; refine Run.nq ?_
  refine Run.nq ?_; refine Run.regionW hC (fun K hK => ?_); simp only [AW7, simprocAttr, hX]; (repeat (with_reducible refine And.intro ?_ ?_); exact vc0); refine hK _ ?_; clear hK K; refine Run.nq ?_
  refine Run.nq ?_; refine Run.condW (by simp only [AW7, simprocAttr, hX]; rfl) (by simp only [AW7, simprocAttr, hX]) ?_ ?_
  · intro h; cases h
  intro _
  refine Run.nq ?_; refine Run.regionW hC (fun K hK => ?_); simp only [AW7, simprocAttr, hX]; (repeat (with_reducible refine And.intro ?_ ?_); exact vc0); refine hK _ ?_; clear hK K; refine Run.nq ?_
  refine Run.nq ?_; refine Run.condW (by simp only [AW7, simprocAttr, hX]; rfl) (by simp only [AW7, simprocAttr, hX]) ?_ ?_
  · intro h; cases h
  intro _
  refine Run.nq ?_; refine Run.regionW hC (fun K hK => ?_); simp only [AW7, simprocAttr, hX]; (repeat (with_reducible refine And.intro ?_ ?_); exact vc0); refine hK _ ?_; clear hK K; refine Run.nq ?_
  refine Run.nq ?_; refine Run.condW (by simp only [AW7, simprocAttr, hX]; rfl) (by simp only [AW7, simprocAttr, hX]) ?_ ?_
  · intro h
    rw [decide_eq_true_eq] at h
    refine Run.nq ?_; refine Run.regionW hC (fun K hK => ?_); simp only [AW7, simprocAttr, hX]; (repeat (with_reducible refine And.intro ?_ ?_); exact vc0); refine hK _ ?_; clear hK K; refine Run.nq ?_
    refine Run.retW [4] (by decide) (by rw [hfn]; rfl) (by simp only [AW7, simprocAttr, hX]; rfl) (by simp only [AW7, simprocAttr, hX]) (hfin _ _ rfl rfl ?_)
    unfold cmpI; rw [if_pos h]; exact ⟨rfl, rfl⟩
  intro h1
  rw [decide_eq_false_iff_not] at h1
  refine Run.nq ?_; refine Run.regionW hC (fun K hK => ?_); simp only [AW7, simprocAttr, hX]; (repeat (with_reducible refine And.intro ?_ ?_); exact vc0); refine hK _ ?_; clear hK K; refine Run.nq ?_
  refine Run.nq ?_; refine Run.condW (by simp only [AW7, simprocAttr, hX]; rfl) (by simp only [AW7, simprocAttr, hX]) ?_ ?_
  · intro h
    rw [decide_eq_true_eq] at h
    refine Run.nq ?_; refine Run.regionW hC (fun K hK => ?_); simp only [AW7, simprocAttr, hX]; (repeat (with_reducible refine And.intro ?_ ?_); exact vc0); refine hK _ ?_; clear hK K; refine Run.nq ?_
    refine Run.retW [4] (by decide) (by rw [hfn]; rfl) (by simp only [AW7, simprocAttr, hX]; rfl) (by simp only [AW7, simprocAttr, hX]) (hfin _ _ rfl rfl ?_)
    unfold cmpI; rw [if_neg h1, if_pos h]; exact ⟨rfl, rfl⟩
  intro h2
  rw [decide_eq_false_iff_not] at h2
  refine Run.nq ?_; refine Run.regionW hC (fun K hK => ?_); simp only [AW7, simprocAttr, hX]; (repeat (with_reducible refine And.intro ?_ ?_); exact vc0); refine hK _ ?_; clear hK K; refine Run.nq ?_
  refine Run.retW [4] (by decide) (by rw [hfn]; rfl) (by simp only [AW7, simprocAttr, hX]; rfl) (by simp only [AW7, simprocAttr, hX]) (hfin _ _ rfl rfl ?_)
  unfold cmpI; rw [if_neg h1, if_neg h2]; exact ⟨rfl, rfl⟩

theorem c_slicesCompare (p q : List Int) (hp : p.length ≤ 1048576) : FunA B 78 [.sl false .int p, .sl false .int q] (fun rs o => (∃ v, rs = [.int .i64 v] ∧ (p.length = q.length → v = cmpN p q p.length 0)) ∧ o = []) := by
  refine FunA.walk B_ok (fn := Try.f78) (fun vs w => Try.call78 vs w) Try.func78 rfl (by rw [Try.ntmps78]; simp) (fun C hC hP hT hΓ hbt hfn hpin hfin => ?_); have hX := BX; rw [← hΓ, ← hbt.1, ← hbt.2] at hX; rw [Try.ntmps78]; simp only [AW7, simprocAttr, hX]
  refine Run.nq ?_; refine Run.regionW hC (fun K hK => ?_); simp only [AW7, simprocAttr, hX]; (repeat (with_reducible refine And.intro ?_ ?_); exact vc0); refine hK _ ?_; clear hK K; refine Run.nq ?_
  refine Run.nq ?_; refine Run.regionW hC (fun K hK => ?_); simp only [AW7, simprocAttr, hX]; (repeat (with_reducible refine And.intro ?_ ?_); exact vc0); refine hK _ ?_; clear hK K; refine Run.nq ?_
  refine Run.loopI (X := Nat) (fun i => ⟨36, [(0, true, .v (.sl false .int (p))), (1, true, .v (.sl false .int (q))), (9, true, .v (.sl false .int (p))), (10, true, .v (.int .i64 (p.length))), (11, true, .v (.int .i64 (i)))], []⟩) (fun i => i ≤ p.length ∧ cmpN p q (p.length - i) i = cmpN p q p.length 0) (fun i => p.length - i) (0) (⟨by omega, rfl⟩) ?_ ?_
  · exact Le.sub (by first | rfl | simp) (by simp only [AW7, simprocAttr, hX]; try simp <;> try (first | rfl | exact ⟨rfl, rfl⟩ | exact ⟨rfl, rfl, rfl⟩))
  rintro i ⟨hi, he⟩ ih
  try simp only []
  refine Run.nq ?_; refine Run.regionW hC (fun K hK => ?_); simp only [AW7, simprocAttr, hX]; (repeat (with_reducible refine And.intro ?_ ?_); exact vc0); refine hK _ ?_; clear hK K; refine Run.nq ?_
  refine Run.nq ?_; refine Run.condW (by simp only [AW7, simprocAttr, hX]; rfl) (by simp only [AW7, simprocAttr, hX]) ?_ ?_
  rotate_left
  · intro h
    rw [decide_eq_false_iff_not] at h
    refine Run.exit rfl ?_; refine Run.nq ?_
    refine Run.nq ?_; refine Run.regionW hC (fun K hK => ?_); simp only [AW7, simprocAttr, hX]; (repeat (with_reducible refine And.intro ?_ ?_); exact vc0); refine hK _ ?_; clear hK K; refine Run.nq ?_
    rw [show p.length - i = 0 by omega] at he
    refine Run.nq ?_; refine Run.condW (by simp only [AW7, simprocAttr, hX]; rfl) (by simp only [AW7, simprocAttr, hX]) ?_ ?_
    · intro h2
      rw [decide_eq_true_eq] at h2
      refine Run.nq ?_; refine Run.regionW hC (fun K hK => ?_); simp only [AW7, simprocAttr, hX]; (repeat (with_reducible refine And.intro ?_ ?_); exact vc0); refine hK _ ?_; clear hK K; refine Run.nq ?_
      refine Run.retW [4] (by decide) (by rw [hfn]; rfl) (by simp only [AW7, simprocAttr, hX]; rfl) (by simp only [AW7, simprocAttr, hX]) (hfin _ _ rfl rfl ?_)
      exact ⟨⟨_, rfl, fun e => by omega⟩, rfl⟩
    intro h2
    refine Run.nq ?_; refine Run.regionW hC (fun K hK => ?_); simp only [AW7, simprocAttr, hX]; (repeat (with_reducible refine And.intro ?_ ?_); exact vc0); refine hK _ ?_; clear hK K; refine Run.nq ?_
    refine Run.retW [4] (by decide) (by rw [hfn]; rfl) (by simp only [AW7, simprocAttr, hX]; rfl) (by simp only [AW7, simprocAttr, hX]) (hfin _ _ rfl rfl ?_)
    exact ⟨⟨_, rfl, fun e => he⟩, rfl⟩
  intro h
  rw [decide_eq_true_eq] at h
  refine Run.nq ?_; refine Run.regionW hC (fun K hK => ?_); simp only [AW7, simprocAttr, hX]; (repeat (with_reducible refine And.intro ?_ ?_); exact vc0); refine hK _ ?_; clear hK K; refine Run.nq ?_
  refine Run.nq ?_; refine Run.regionW hC (fun K hK => ?_); simp only [AW7, simprocAttr, hX]; (repeat (with_reducible refine And.intro ?_ ?_); exact vc0); refine hK _ ?_; clear hK K; refine Run.nq ?_
  refine Run.nq ?_; refine Run.condW (by simp only [AW7, simprocAttr, hX]; rfl) (by simp only [AW7, simprocAttr, hX]) ?_ ?_
  · intro h2
    rw [decide_eq_true_eq] at h2
    refine Run.nq ?_; refine Run.regionW hC (fun K hK => ?_); simp only [AW7, simprocAttr, hX]; (repeat (with_reducible refine And.intro ?_ ?_); exact vc0); refine hK _ ?_; clear hK K; refine Run.nq ?_
    refine Run.retW [4] (by decide) (by rw [hfn]; rfl) (by simp only [AW7, simprocAttr, hX]; rfl) (by simp only [AW7, simprocAttr, hX]) (hfin _ _ rfl rfl ?_)
    exact ⟨⟨_, rfl, fun e => by omega⟩, rfl⟩
  intro h2
  rw [decide_eq_false_iff_not] at h2
  have hs : p.length - i = (p.length - (i + 1)) + 1 := by omega
  rw [hs] at he
  simp only [cmpN] at he
  refine Run.nq ?_; refine Run.regionW hC (fun K hK => ?_); simp only [AW7, simprocAttr, hX]; (repeat (with_reducible refine And.intro ?_ ?_); exact vc0); refine hK _ ?_; clear hK K; refine Run.nq ?_
  refine Run.nq ?_; refine Run.regionW hC (fun K hK => ?_); simp only [AW7, simprocAttr, hX]; (repeat (with_reducible refine And.intro ?_ ?_); exact vc0)
  refine FunA.callW hP hT (c_cmpCompare (p.getD i 0) (q.getD i 0)) (by simp only [AW7, simprocAttr]) ?_
  rintro rs o ⟨rfl, rfl⟩
  (try simp only [AW7, simprocAttr, hX]); (repeat (with_reducible refine And.intro ?_ ?_); exact vc0)
  (repeat (with_reducible refine And.intro ?_ ?_); exact vc0); refine hK _ ?_; clear hK K; refine Run.nq ?_
  refine Run.nq ?_; refine Run.regionW hC (fun K hK => ?_); simp only [AW7, simprocAttr, hX]; (repeat (with_reducible refine And.intro ?_ ?_); exact vc0); refine hK _ ?_; clear hK K; refine Run.nq ?_
  refine Run.nq ?_; refine Run.condW (by simp only [AW7, simprocAttr, hX]; rfl) (by simp only [AW7, simprocAttr, hX]) ?_ ?_
  · intro h3
    have h3 : cmpI (p.getD i 0) (q.getD i 0) ≠ 0 := by simpa using h3
    have e2 : cmpI (p.getD i 0) (q.getD i 0) = cmpN p q p.length 0 := by
      rw [← he]; unfold cmpI at *
      by_cases k1 : p.getD i 0 < q.getD i 0
      · rw [if_pos k1, if_pos k1]
      · by_cases k2 : p.getD i 0 > q.getD i 0
        · rw [if_neg k1, if_pos k2, if_neg k1, if_pos k2]
        · rw [if_neg k1, if_neg k2] at h3; omega
    refine Run.nq ?_; refine Run.regionW hC (fun K hK => ?_); simp only [AW7, simprocAttr, hX]; (repeat (with_reducible refine And.intro ?_ ?_); exact vc0); refine hK _ ?_; clear hK K; refine Run.nq ?_
    refine Run.retW [4] (by decide) (by rw [hfn]; rfl) (by simp only [AW7, simprocAttr, hX]; rfl) (by simp only [AW7, simprocAttr, hX]) (hfin _ _ rfl rfl ?_)
    exact ⟨⟨_, rfl, fun _ => e2⟩, rfl⟩
  intro h3
  have h3 : cmpI (p.getD i 0) (q.getD i 0) = 0 := by simpa using h3
  have e3 : cmpN p q (p.length - (i + 1)) (i + 1) = cmpN p q p.length 0 := by
    rw [← he]; unfold cmpI at h3
    split at h3
    · omega
    · split at h3
      · omega
      · rename_i k1 k2; rw [if_neg k1, if_neg k2]
  refine Run.nq ?_; refine Run.regionW hC (fun K hK => ?_); simp (disch := omega) only [wrap_id, AW7, simprocAttr, hX]; (repeat (with_reducible refine And.intro ?_ ?_); exact vc0); refine hK _ ?_; clear hK K; refine Run.nq ?_
  refine Run.le ?_ (ih (i + 1) (⟨by omega, e3⟩) (by (try simp only [List.length_append, List.length_cons, List.length_nil]); omega))
  exact Le.sub (by rfl) (by simp only [AW7, simprocAttr]; try simp)

def orL : List Int → Int
  | [] => 0
  | x :: l => if x = 0 then orL l else x
theorem orL_drop (xs : List Int) {i : Nat} (h : i < xs.length) : orL (xs.drop i) = if xs.getD i 0 = 0 then orL (xs.drop (i + 1)) else xs.getD i 0 := by
  rw [List.drop_eq_getElem_cons h, getD_eq h]; rfl
theorem c_cmpOr (xs : List Int) (hl : xs.length ≤ 1048576) : FunA B 76 [.sl false .int xs] (fun rs o => rs = [.int .i64 (orL xs)] ∧ o = []) := by
  refine FunA.walk B_ok (fn := Try.f76) (fun vs w => Try.call76 vs w) Try.func76 rfl (by rw [Try.ntmps76]; simp) (fun C hC hP hT hΓ hbt hfn hpin hfin => ?_); have hX := BX; rw [← hΓ, ← hbt.1, ← hbt.2] at hX; rw [Try.ntmps76]; simp only [AW7, simprocAttr, hX]
  refine Run.nq ?_; refine Run.regionW hC (fun K hK => ?_); simp only [AW7, simprocAttr, hX]; (repeat (with_reducible refine And.intro ?_ ?_); exact vc0); refine hK _ ?_; clear hK K; refine Run.nq ?_
  refine Run.nq ?_; refine Run.regionW hC (fun K hK => ?_); simp only [AW7, simprocAttr, hX]; (repeat (with_reducible refine And.intro ?_ ?_); exact vc0); refine hK _ ?_; clear hK K; refine Run.nq ?_
  refine Run.nq ?_; refine Run.regionW hC (fun K hK => ?_); simp only [AW7, simprocAttr, hX]; (repeat (with_reducible refine And.intro ?_ ?_); exact vc0); refine hK _ ?_; clear hK K; refine Run.nq ?_
  refine Run.loopI (X := Nat) (fun i => ⟨18, [(0, true, .v (.sl false .int (xs))), (3, true, .v (.int .i64 (0))), (6, true, .v (.sl false .int (xs))), (7, true, .v (.int .i64 (xs.length))), (8, true, .v (.int .i64 (i)))], []⟩) (fun i => i ≤ xs.length ∧ orL (xs.drop i) = orL xs) (fun i => xs.length - i) (0) (⟨by omega, rfl⟩) ?_ ?_
  · exact Le.sub (by first | rfl | simp) (by simp only [AW7, simprocAttr, hX]; try simp <;> try (first | rfl | exact ⟨rfl, rfl⟩ | exact ⟨rfl, rfl, rfl⟩))
  rintro i ⟨hi, he⟩ ih
  try simp only []
  refine Run.nq ?_; refine Run.regionW hC (fun K hK => ?_); simp only [AW7, simprocAttr, hX]; (repeat (with_reducible refine And.intro ?_ ?_); exact vc0); refine hK _ ?_; clear hK K; refine Run.nq ?_
  refine Run.nq ?_; refine Run.condW (by simp only [AW7, simprocAttr, hX]; rfl) (by simp only [AW7, simprocAttr, hX]) ?_ ?_
  rotate_left
  · intro h
    rw [decide_eq_false_iff_not] at h
    refine Run.exit rfl ?_; refine Run.nq ?_
    refine Run.nq ?_; refine Run.regionW hC (fun K hK => ?_); simp only [AW7, simprocAttr, hX]; (repeat (with_reducible refine And.intro ?_ ?_); exact vc0); refine hK _ ?_; clear hK K; refine Run.nq ?_
    refine Run.retW [2] (by decide) (by rw [hfn]; rfl) (by simp only [AW7, simprocAttr, hX]; rfl) (by simp only [AW7, simprocAttr, hX]) (hfin _ _ rfl rfl ?_)
    rw [List.drop_eq_nil_of_le (by omega)] at he
    exact ⟨by rw [← he]; rfl, rfl⟩
  intro h
  rw [decide_eq_true_eq] at h
  rw [orL_drop xs (by omega)] at he
  refine Run.nq ?_; refine Run.regionW hC (fun K hK => ?_); simp only [AW7, simprocAttr, hX]; (repeat (with_reducible refine And.intro ?_ ?_); exact vc0); refine hK _ ?_; clear hK K; refine Run.nq ?_
  refine Run.nq ?_; refine Run.regionW hC (fun K hK => ?_); simp only [AW7, simprocAttr, hX]; (repeat (with_reducible refine And.intro ?_ ?_); exact vc0); refine hK _ ?_; clear hK K; refine Run.nq ?_
  refine Run.nq ?_; refine Run.condW (by simp only [AW7, simprocAttr, hX]; rfl) (by simp only [AW7, simprocAttr, hX]) ?_ ?_
  · intro h2
    have h2 : xs.getD i 0 ≠ 0 := by simpa using h2
    rw [if_neg h2] at he
    refine Run.nq ?_; refine Run.regionW hC (fun K hK => ?_); simp only [AW7, simprocAttr, hX]; (repeat (with_reducible refine And.intro ?_ ?_); exact vc0); refine hK _ ?_; clear hK K; refine Run.nq ?_
    refine Run.retW [2] (by decide) (by rw [hfn]; rfl) (by simp only [AW7, simprocAttr, hX]; rfl) (by simp only [AW7, simprocAttr, hX]) (hfin _ _ rfl rfl ?_)
    exact ⟨by rw [he], rfl⟩
  intro h2
  have h2 : xs.getD i 0 = 0 := by simpa using h2
  rw [if_pos h2] at he
  refine Run.nq ?_; refine Run.regionW hC (fun K hK => ?_); simp (disch := omega) only [wrap_id, AW7, simprocAttr, hX]; (repeat (with_reducible refine And.intro ?_ ?_); exact vc0); refine hK _ ?_; clear hK K; refine Run.nq ?_
  refine Run.le ?_ (ih (i + 1) (⟨by omega, he⟩) (by (try simp only [List.length_append, List.length_cons, List.length_nil]); omega))
  exact Le.sub (by rfl) (by simp only [AW7, simprocAttr]; try simp)

theorem c_impl_CompareWords (p q : List Int) (hp : p.length ≤ 1048576) : FunA B 51 [.sl false .int p, .sl false .int q] (fun rs o => rs = [.int .i64 (cmpW p q)] ∧ o = []) := by
  refine FunA.walk B_ok (fn := Try.f51) (fun vs w => Try.call51 vs w) Try.func51 rfl (by rw [Try.ntmps51]; simp) (fun C hC hP hT hΓ hbt hfn hpin hfin => ?_); have hX := BX; rw [← hΓ, ← hbt.1, ← hbt.2] at hX; rw [Try.ntmps51]; simp only [AW7, simprocAttr, hX]
  refine Run.nq ?_; refine Run.regionW hC (fun K hK => ?_); simp only [AW7, simprocAttr, hX]; (repeat (with_reducible refine And.intro ?_ ?_); exact vc0); refine hK _ ?_; clear hK K; refine Run.nq ?_
  refine Run.nq ?_; refine Run.regionW hC (fun K hK => ?_); simp only [AW7, simprocAttr, hX]; (repeat (with_reducible refine And.intro ?_ ?_); exact vc0)
  refine FunA.callW hP hT (c_cmpCompare (p.length : Int) (q.length : Int)) (by simp only [AW7, simprocAttr]) ?_
  rintro rs o ⟨rfl, rfl⟩
  (try simp only [AW7, simprocAttr, hX]); (repeat (with_reducible refine And.intro ?_ ?_); exact vc0)
  refine FunA.callW hP hT (c_slicesCompare p q hp) (by simp only [AW7, simprocAttr]) ?_
  rintro rs o ⟨⟨v, rfl, hv⟩, rfl⟩
  (try simp only [AW7, simprocAttr, hX]); (repeat (with_reducible refine And.intro ?_ ?_); exact vc0)
  refine FunA.callW hP hT (c_cmpOr [cmpI p.length q.length, v] (by simp)) (by simp only [AW7, simprocAttr]) ?_
  rintro rs o ⟨rfl, rfl⟩
  (try simp only [AW7, simprocAttr, hX]); (repeat (with_reducible refine And.intro ?_ ?_); exact vc0)
  (repeat (with_reducible refine And.intro ?_ ?_); exact vc0); refine hK _ ?_; clear hK K; refine Run.nq ?_
  have e : orL [cmpI p.length q.length, v] = cmpW p q := by
    simp only [orL]
    unfold cmpI cmpW
    by_cases k1 : p.length < q.length
    · rw [if_pos (by omega : (p.length : Int) < q.length), if_pos k1]; rfl
    · by_cases k2 : p.length > q.length
      · rw [if_neg (by omega : ¬ (p.length : Int) < q.length), if_pos (by omega : (p.length : Int) > q.length), if_neg k1, if_pos k2]; rfl
      · rw [if_neg (by omega : ¬ (p.length : Int) < q.length), if_neg (by omega : ¬ (p.length : Int) > q.length), if_neg k1, if_neg k2, if_pos rfl, ← hv (by omega)]
        split
        · rename_i h; exact h.symm
        · rfl
  refine Run.reK hpin [4] [] (by decide) (by simp) ?_; simp only [AR, AW7, simprocAttr]
  refine Run.retW [4] (by decide) (by rw [hfn]; rfl) (by simp only [AW7, simprocAttr, hX]; rfl) (by simp only [AW7, simprocAttr, hX]) (hfin _ _ rfl rfl ?_)
  rw [e]; exact ⟨rfl, rfl⟩
end Go.Proofs.Ytdhfonblpbpmmaa

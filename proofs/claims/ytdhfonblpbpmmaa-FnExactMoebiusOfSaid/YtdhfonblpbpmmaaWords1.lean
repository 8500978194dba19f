/- Words and images: what the functions of both sides do. -/
import Derived.Test.YtdhfonblpbpmmaaElt
set_option linter.unusedVariables false
set_option linter.unusedSimpArgs false
namespace Go.Proofs.Ytdhfonblpbpmmaa
open Go Go.Aw Go.Cox

def WordP (c : List (List Int)) (w : List Int) : Prop := CartanP c ∧ w.length ≤ 15 ∧ letters c.length w
open Classical in
noncomputable def wordB (c : List (List Int)) (w : List Int) : Bool := decide (WordP c w)
theorem wordB_iff {c : List (List Int)} {w : List Int} : wordB c w = true ↔ WordP c w := by simp [wordB]
def ptB (c : List (List Int)) (i : Int) : Bool := decide (0 ≤ i ∧ i < c.length)

theorem c_impl_isPoint (c : List (List Int)) (i : Int) : FunA B 80 [.sl false (.row false) c, .int .i64 i] (fun rs o => rs = [.bool (ptB c i)] ∧ o = []) := by
  refine FunA.walk B_ok (fn := Try.f80) (fun vs w => Try.call80 vs w) Try.func80 rfl (by rw [Try.ntmps80]; simp) (fun C hC hP hT hΓ hbt hfn hpin hfin => ?_); have hX := BX; rw [← hΓ, ← hbt.1, ← hbt.2] at hX; rw [Try.ntmps80]; simp only [AW7, simprocAttr, hX]
  refine Run.nq ?_; refine Run.regionW hC (fun K hK => ?_); simp only [AW7, simprocAttr, hX]; (repeat (with_reducible refine And.intro ?_ ?_); exact vc0); refine hK _ ?_; clear hK K; refine Run.nq ?_
  refine Run.nq ?_; refine Run.regionW hC (fun K hK => ?_); simp only [AW7, simprocAttr, hX]; (repeat (with_reducible refine And.intro ?_ ?_); exact vc0); refine hK _ ?_; clear hK K; refine Run.nq ?_
  refine Run.retW [4] (by decide) (by rw [hfn]; rfl) (by simp only [AW7, simprocAttr, hX]; rfl) (by simp only [AW7, simprocAttr, hX]) (hfin _ _ rfl rfl ?_)
  refine ⟨?_, rfl⟩
  congr 2
  unfold ptB
  by_cases h : 0 ≤ i <;> simp [h]

theorem getD_mem {w : List Int} {i : Nat} (h : i < w.length) : w.getD i 0 ∈ w := by
  rw [show w.getD i 0 = w[i] from by simp [h]]; exact List.getElem_mem h
theorem letters_getD {n : Nat} {w : List Int} : letters n w ↔ ∀ i, i < w.length → 0 ≤ w.getD i 0 ∧ w.getD i 0 < n := by
  constructor
  · intro h i hi; exact h _ (getD_mem hi)
  · intro h x hx
    obtain ⟨i, hi, rfl⟩ := List.getElem_of_mem hx
    have := h i hi
    rwa [show w.getD i 0 = w[i] from by simp [hi]] at this

open Classical in
noncomputable def letB (c : List (List Int)) (w : List Int) : Bool := decide (letters c.length w)
theorem letB_iff {c : List (List Int)} {w : List Int} : letB c w = true ↔ letters c.length w := by simp [letB]

theorem c_impl_isWordOf (c : List (List Int)) (w : List Int) : FunA B 60 [.sl false (.row false) c, .sl false .int w] (fun rs o => rs = [.bool (letB c w)] ∧ o = []) := by
  refine FunA.walk B_ok (fn := Try.f60) (fun vs w => Try.call60 vs w) Try.func60 rfl (by rw [Try.ntmps60]; simp) (fun C hC hP hT hΓ hbt hfn hpin hfin => ?_); have hX := BX; rw [← hΓ, ← hbt.1, ← hbt.2] at hX; rw [Try.ntmps60]; simp only [AW7, simprocAttr, hX]
  refine Run.len 1 rfl fun hlens => ?_
  refine Run.nq ?_; refine Run.regionW hC (fun K hK => ?_); simp only [AW7, simprocAttr, hX]; (repeat (with_reducible refine And.intro ?_ ?_); exact vc0); refine hK _ ?_; clear hK K; refine Run.nq ?_
  refine Run.nq ?_; refine Run.regionW hC (fun K hK => ?_); simp only [AW7, simprocAttr, hX]; (repeat (with_reducible refine And.intro ?_ ?_); exact vc0); refine hK _ ?_; clear hK K; refine Run.nq ?_
  refine Run.loopI (X := Nat) (fun i => ⟨18, [(0, true, .v (.sl false (.row false) c)), (4, true, .v (.bool false)), (7, true, .v (.sl false .int w)), (8, true, .v (.int .i64 w.length)), (9, true, .v (.int .i64 i))], []⟩) (fun i => i ≤ w.length ∧ ∀ k, k < i → 0 ≤ w.getD k 0 ∧ w.getD k 0 < c.length) (fun i => w.length - i) 0 ⟨Nat.zero_le _, by omega⟩ ?_ ?_
  · exact Le.sub (by simp only [AW7, simprocAttr]) (by simp only [AW7, simprocAttr]; try simp)
  rintro i ⟨hi, hset⟩ ih
  refine Run.nq ?_; refine Run.regionW hC (fun K hK => ?_); simp only [AW7, simprocAttr, hX]; (repeat (with_reducible refine And.intro ?_ ?_); exact vc0); refine hK _ ?_; clear hK K; refine Run.nq ?_
  refine Run.nq ?_; refine Run.condW (by simp only [AW7, simprocAttr, hX]; rfl) (by simp only [AW7, simprocAttr, hX]) ?_ ?_
  · intro hc
    have hc : i < w.length := by simpa using hc
    refine Run.nq ?_; refine Run.regionW hC (fun K hK => ?_); simp only [AW7, simprocAttr, hX]; (repeat (with_reducible refine And.intro ?_ ?_); exact vc0); refine hK _ ?_; clear hK K; refine Run.nq ?_
    refine Run.nq ?_; refine Run.regionW hC (fun K hK => ?_); simp only [AW7, simprocAttr, hX]; (repeat (with_reducible refine And.intro ?_ ?_); exact vc0)
    refine FunA.callW hP hT (c_impl_isPoint c (w.getD i 0)) (by simp only [AW7, simprocAttr]) ?_
    rintro rs o ⟨rfl, rfl⟩
    (try simp only [AW7, simprocAttr, hX]); (repeat (with_reducible refine And.intro ?_ ?_); exact vc0)
    (repeat (with_reducible refine And.intro ?_ ?_); exact vc0); refine hK _ ?_; clear hK K; refine Run.nq ?_
    refine Run.nq ?_; refine Run.condW (by simp only [AW7, simprocAttr, hX]; rfl) (by simp only [AW7, simprocAttr, hX]) ?_ ?_
    · intro hb
      have hb : ¬ (0 ≤ w.getD i 0 ∧ w.getD i 0 < c.length) := by
        revert hb; unfold ptB
        cases h : decide (0 ≤ w.getD i 0 ∧ w.getD i 0 < (c.length : Int)) with
        | true => intro hb; cases hb
        | false => intro _; exact of_decide_eq_false h
      refine Run.nq ?_; refine Run.regionW hC (fun K hK => ?_); simp only [AW7, simprocAttr, hX]; (repeat (with_reducible refine And.intro ?_ ?_); exact vc0); refine hK _ ?_; clear hK K; refine Run.nq ?_
      refine Run.retW [4] (by decide) (by rw [hfn]; rfl) (by simp only [AW7, simprocAttr, hX]; rfl) (by simp only [AW7, simprocAttr, hX]) (hfin _ _ rfl rfl ?_)
      refine ⟨?_, rfl⟩
      have : letB c w = false := by
        cases h : letB c w with
        | false => rfl
        | true => exact absurd (letters_getD.1 (letB_iff.1 h) i hc) hb
      rw [this]
    · intro hb
      have hb : 0 ≤ w.getD i 0 ∧ w.getD i 0 < c.length := by
        revert hb; unfold ptB
        cases h : decide (0 ≤ w.getD i 0 ∧ w.getD i 0 < (c.length : Int)) with
        | true => intro _; exact of_decide_eq_true h
        | false => intro hb; cases hb
      refine Run.nq ?_; refine Run.regionW hC (fun K hK => ?_); simp (disch := omega) only [wrap_id, AW7, simprocAttr, hX]; (repeat (with_reducible refine And.intro ?_ ?_); exact vc0); refine hK _ ?_; clear hK K; refine Run.nq ?_
      refine Run.le ?_ (ih (i + 1) ⟨hc, fun k hk => ?_⟩ (by omega))
      · exact Le.sub (by simp only [AW7, simprocAttr]) (by simp only [AW7, simprocAttr, Option.some.injEq, Prod.mk.injEq, Sl.v.injEq, AV.int.injEq, AV.own.injEq, AV.bool.injEq]; try (repeat' apply And.intro); all_goals omega)
      · rcases Nat.lt_succ_iff_lt_or_eq.1 hk with h | rfl
        · exact hset k h
        · exact hb
  · intro hc
    have hc : i = w.length := by simp at hc; omega
    subst hc
    refine Run.exit rfl ?_; refine Run.nq ?_
    refine Run.nq ?_; refine Run.regionW hC (fun K hK => ?_); simp only [AW7, simprocAttr, hX]; (repeat (with_reducible refine And.intro ?_ ?_); exact vc0); refine hK _ ?_; clear hK K; refine Run.nq ?_
    refine Run.retW [4] (by decide) (by rw [hfn]; rfl) (by simp only [AW7, simprocAttr, hX]; rfl) (by simp only [AW7, simprocAttr, hX]) (hfin _ _ rfl rfl ?_)
    refine ⟨?_, rfl⟩
    rw [letB_iff.2 (letters_getD.2 hset)]

theorem wordB_eq (c : List (List Int)) (w : List Int) : wordB c w = (isC c && decide (w.length ≤ 15) && letB c w) := by
  rw [Bool.eq_iff_iff, wordB_iff]
  simp only [Bool.and_eq_true, isC_iff, decide_eq_true_eq, letB_iff, WordP]
  exact and_assoc.symm

theorem c_impl_IsWord (c : List (List Int)) (w : List Int) : FunA B 36 [.sl false (.row false) c, .sl false .int w] (fun rs o => rs = [.bool (wordB c w)] ∧ o = []) := by
  refine FunA.walk B_ok (fn := Try.f36) (fun vs w => Try.call36 vs w) Try.func36 rfl (by rw [Try.ntmps36]; simp) (fun C hC hP hT hΓ hbt hfn hpin hfin => ?_); have hX := BX; rw [← hΓ, ← hbt.1, ← hbt.2] at hX; rw [Try.ntmps36]; simp only [AW7, simprocAttr, hX]
  refine Run.nq ?_; refine Run.regionW hC (fun K hK => ?_); simp only [AW7, simprocAttr, hX]; (repeat (with_reducible refine And.intro ?_ ?_); exact vc0); refine hK _ ?_; clear hK K; refine Run.nq ?_
  refine Run.nq ?_; refine Run.regionW hC (fun K hK => ?_); simp only [AW7, simprocAttr, hX]; (repeat (with_reducible refine And.intro ?_ ?_); exact vc0)
  refine FunA.callW hP hT (c_impl_IsCartan c) (by simp only [AW7, simprocAttr]) ?_
  rintro rs o ⟨rfl, rfl⟩
  (try simp only [AW7, simprocAttr, hX]); (repeat (with_reducible refine And.intro ?_ ?_); exact vc0)
  refine .inl (FunA.callG hP hT (c_impl_isWordOf c w) (fun _ => rfl) (fun _ => by simp only [AW7, simprocAttr]) ?_)
  (try simp only [AW7, simprocAttr, hX]); (repeat (with_reducible refine And.intro ?_ ?_); exact vc0)
  (repeat (with_reducible refine And.intro ?_ ?_); exact vc0); refine hK _ ?_; clear hK K; refine Run.nq ?_
  refine Run.retW [4] (by decide) (by rw [hfn]; rfl) (by simp only [AW7, simprocAttr, hX]; rfl) (by simp only [AW7, simprocAttr, hX]) (hfin _ _ rfl rfl ?_)
  refine ⟨?_, rfl⟩
  rw [wordB_eq]
  congr 2
  by_cases h : w.length ≤ 15
  · have h' : (w.length : Int) ≤ 15 := by omega
    cases isC c <;> simp [h, h']
  · have h' : ¬ (w.length : Int) ≤ 15 := by omega
    cases isC c <;> simp [h, h']

theorem c_spec_IsWord (c : List (List Int)) (w : List Int) (hcl : c.length ≤ 1048576) : FunA B 38 [.sl false (.row false) c, .sl false .int w] (fun rs o => rs = [.bool (wordB c w)] ∧ o = []) := by
  refine FunA.walk B_ok (fn := Try.f38) (fun vs w => Try.call38 vs w) Try.func38 rfl (by rw [Try.ntmps38]; simp) (fun C hC hP hT hΓ hbt hfn hpin hfin => ?_); have hX := BX; rw [← hΓ, ← hbt.1, ← hbt.2] at hX; rw [Try.ntmps38]; simp only [AW7, simprocAttr, hX]
  refine Run.len 1 rfl fun hlens => ?_
  refine Run.nq ?_; refine Run.regionW hC (fun K hK => ?_); simp only [AW7, simprocAttr, hX]; (repeat (with_reducible refine And.intro ?_ ?_); exact vc0); refine hK _ ?_; clear hK K; refine Run.nq ?_
  refine Run.nq ?_; refine Run.regionW hC (fun K hK => ?_); simp only [AW7, simprocAttr, hX]; (repeat (with_reducible refine And.intro ?_ ?_); exact vc0); refine hK _ ?_; clear hK K; refine Run.nq ?_
  refine Run.loopI (X := Nat) (fun i => ⟨28, [(0, true, .v (.sl false (.row false) c)), (1, true, .v (.sl false .int w)), (4, true, .v (.bool false)), (5, true, .v (.int .i64 i))], []⟩) (fun i => i ≤ w.length ∧ ∀ k, k < i → 0 ≤ w.getD k 0 ∧ w.getD k 0 < c.length) (fun i => w.length - i) 0 ⟨Nat.zero_le _, by omega⟩ ?_ ?_
  · exact Le.sub (by simp only [AW7, simprocAttr]) (by simp only [AW7, simprocAttr]; try simp)
  rintro i ⟨hi, hset⟩ ih
  refine Run.nq ?_; refine Run.regionW hC (fun K hK => ?_); simp only [AW7, simprocAttr, hX]; (repeat (with_reducible refine And.intro ?_ ?_); exact vc0); refine hK _ ?_; clear hK K; refine Run.nq ?_
  refine Run.nq ?_; refine Run.condW (by simp only [AW7, simprocAttr, hX]; rfl) (by simp only [AW7, simprocAttr, hX]) ?_ ?_
  · intro hc
    have hc : i < w.length := by simpa using hc
    refine Run.keep [0, 1, 4, 5] ?_; simp only [AK, Nat.reduceBEq]
    refine Run.nq ?_; refine Run.regionW hC (fun K hK => ?_); simp (disch := omega) only [wrap_id, AW7, simprocAttr, hX]; (repeat (with_reducible refine And.intro ?_ ?_); exact vc0)
    refine FunA.callW hP hT (c_spec_l1In (w.getD i 0) 0 ((c.length : Int) - 1)) (by simp only [AW7, simprocAttr]) ?_
    rintro rs o ⟨rfl, rfl⟩
    (try simp only [AW7, simprocAttr, hX]); (repeat (with_reducible refine And.intro ?_ ?_); exact vc0)
    (repeat (with_reducible refine And.intro ?_ ?_); exact vc0); refine hK _ ?_; clear hK K; refine Run.nq ?_
    have key : inB (w.getD i 0) 0 ((c.length : Int) - 1) = true ↔ 0 ≤ w.getD i 0 ∧ w.getD i 0 < c.length := by rw [inB_iff]; omega
    refine Run.nq ?_; refine Run.condW (by simp only [AW7, simprocAttr, hX]; rfl) (by simp only [AW7, simprocAttr, hX]) ?_ ?_
    · intro hb
      have hb : ¬ (0 ≤ w.getD i 0 ∧ w.getD i 0 < c.length) := fun h => by rw [key.2 h] at hb; cases hb
      refine Run.nq ?_; refine Run.regionW hC (fun K hK => ?_); simp only [AW7, simprocAttr, hX]; (repeat (with_reducible refine And.intro ?_ ?_); exact vc0); refine hK _ ?_; clear hK K; refine Run.nq ?_
      refine Run.retW [4] (by decide) (by rw [hfn]; rfl) (by simp only [AW7, simprocAttr, hX]; rfl) (by simp only [AW7, simprocAttr, hX]) (hfin _ _ rfl rfl ?_)
      refine ⟨?_, rfl⟩
      have : wordB c w = false := by
        cases h : wordB c w with
        | false => rfl
        | true => exact absurd (letters_getD.1 (wordB_iff.1 h).2.2 i hc) hb
      rw [this]
    · intro hb
      have hb : 0 ≤ w.getD i 0 ∧ w.getD i 0 < c.length := by
        refine key.1 ?_
        revert hb
        cases inB (w.getD i 0) 0 ((c.length : Int) - 1) <;> simp
      refine Run.nq ?_; refine Run.regionW hC (fun K hK => ?_); simp (disch := omega) only [wrap_id, AW7, simprocAttr, hX]; (repeat (with_reducible refine And.intro ?_ ?_); exact vc0); refine hK _ ?_; clear hK K; refine Run.nq ?_
      refine Run.le ?_ (ih (i + 1) ⟨hc, fun k hk => ?_⟩ (by omega))
      · exact Le.sub (by simp only [AW7, simprocAttr]) (by simp only [AW7, simprocAttr, Option.some.injEq, Prod.mk.injEq, Sl.v.injEq, AV.int.injEq, AV.own.injEq, AV.bool.injEq]; try (repeat' apply And.intro); all_goals omega)
      · rcases Nat.lt_succ_iff_lt_or_eq.1 hk with h | rfl
        · exact hset k h
        · exact hb
  · intro hc
    have hc : i = w.length := by simp at hc; omega
    subst hc
    refine Run.exit rfl ?_; refine Run.nq ?_
    refine Run.nq ?_; refine Run.regionW hC (fun K hK => ?_); simp only [AW7, simprocAttr, hX]; (repeat (with_reducible refine And.intro ?_ ?_); exact vc0)
    refine FunA.callW hP hT (c_spec_IsCartan c) (by simp only [AW7, simprocAttr]) ?_
    rintro rs o ⟨rfl, rfl⟩
    (try simp only [AW7, simprocAttr, hX]); (repeat (with_reducible refine And.intro ?_ ?_); exact vc0)
    (repeat (with_reducible refine And.intro ?_ ?_); exact vc0); refine hK _ ?_; clear hK K; refine Run.nq ?_
    refine Run.retW [4] (by decide) (by rw [hfn]; rfl) (by simp only [AW7, simprocAttr, hX]; rfl) (by simp only [AW7, simprocAttr, hX]) (hfin _ _ rfl rfl ?_)
    refine ⟨?_, rfl⟩
    rw [wordB_eq, letB_iff.2 (letters_getD.2 hset)]
    congr 2
    by_cases h : w.length ≤ 15
    · have h' : (w.length : Int) ≤ 15 := by omega
      cases isC c <;> simp [h, h']
    · have h' : ¬ (w.length : Int) ≤ 15 := by omega
      cases isC c <;> simp [h, h']

theorem ones_succ (n : Nat) : ones n ++ [(1 : Int)] = ones (n + 1) := by simp [ones, List.replicate_succ']

theorem c_impl_ones (n : Nat) (hn : n ≤ 1048576) : FunA B 69 [.int .i64 n] (fun rs o => rs = [.own 0 0] ∧ o = [.arr .int (ones n) 0 true]) := by
  refine FunA.walk B_ok (fn := Try.f69) (fun vs w => Try.call69 vs w) Try.func69 rfl (by rw [Try.ntmps69]; simp) (fun C hC hP hT hΓ hbt hfn hpin hfin => ?_); have hX := BX; rw [← hΓ, ← hbt.1, ← hbt.2] at hX; rw [Try.ntmps69]; simp only [AW7, simprocAttr, hX]
  refine Run.nq ?_; refine Run.regionW hC (fun K hK => ?_); simp only [AW7, simprocAttr, hX]; (repeat (with_reducible refine And.intro ?_ ?_); exact vc0); refine hK _ ?_; clear hK K; refine Run.nq ?_
  refine Run.nq ?_; refine Run.regionW hC (fun K hK => ?_); simp only [AW7, simprocAttr, hX]; (repeat (with_reducible refine And.intro ?_ ?_); exact vc0); refine hK _ ?_; clear hK K; refine Run.nq ?_
  refine Run.nq ?_; refine Run.regionW hC (fun K hK => ?_); simp only [AW7, simprocAttr, hX]; (repeat (with_reducible refine And.intro ?_ ?_); exact vc0); refine hK _ ?_; clear hK K; refine Run.nq ?_
  refine Run.loopI (X := Nat) (fun i => ⟨13, [(2, true, .v .nils), (3, true, .v (.own 0 i)), (5, true, .v (.int .i64 n)), (6, true, .v (.int .i64 i))], [.arr .int (ones i) i true]⟩) (fun i => i ≤ n) (fun i => n - i) 0 (Nat.zero_le _) ?_ ?_
  · exact Le.sub (by rfl) (by simp only [AW7, simprocAttr, hX]; try simp)
  rintro i hi ih
  have hll := ones_length i
  refine Run.nq ?_; refine Run.regionW hC (fun K hK => ?_); simp only [AW7, simprocAttr, hX]; (repeat (with_reducible refine And.intro ?_ ?_); exact vc0); refine hK _ ?_; clear hK K; refine Run.nq ?_
  refine Run.nq ?_; refine Run.condW (by simp only [AW7, simprocAttr, hX]; rfl) (by simp only [AW7, simprocAttr, hX]) ?_ ?_
  · intro hc
    have hc : i < n := by simpa using hc
    refine Run.nq ?_; refine Run.regionW hC (fun K hK => ?_); simp only [AW7, simprocAttr, hX]; (repeat (with_reducible refine And.intro ?_ ?_); exact vc0); refine hK _ ?_; clear hK K; refine Run.nq ?_
    refine Run.nq ?_; refine Run.regionW hC (fun K hK => ?_); simp (disch := omega) only [wrap_id, AW7, simprocAttr, hX]; (repeat (with_reducible refine And.intro ?_ ?_); exact vc0); refine hK _ ?_; clear hK K; refine Run.nq ?_
    refine Run.le ?_ (ih (i + 1) hc (by omega))
    refine Le.cut0 hpin [_] (by rw [← ones_succ]; rfl) ?_ rfl
    simp only [AW7, simprocAttr]; try simp
  · intro hc
    have hc : i = n := by simp at hc; omega
    subst hc
    refine Run.exit rfl ?_; refine Run.nq ?_
    refine Run.nq ?_; refine Run.regionW hC (fun K hK => ?_); simp only [AW7, simprocAttr, hX]; (repeat (with_reducible refine And.intro ?_ ?_); exact vc0); refine hK _ ?_; clear hK K; refine Run.nq ?_
    refine Run.le (Le.re (obs' := [.arr .int (ones i) 0 true]) hpin [0] [(2, true, .own 0 0)] rfl (by simp [leOs, leO_arr, oAt]) (by refine ⟨⟨_, rfl, ?_⟩, trivial⟩; simp [leAV, oAt, genO])) ?_
    simp only [frV_cons, frV_nil]
    refine Run.retW [2] (by decide) (by rw [hfn]; rfl) (by simp only [AW7, simprocAttr, hX]; rfl) (by simp only [AW7, simprocAttr, hX]) (hfin _ _ rfl rfl ?_)
    exact ⟨rfl, rfl⟩

theorem c_spec_RhoOf (c : List (List Int)) (hc : CartanP c) : FunA B 84 [.sl false (.row false) c] (fun rs o => rs = [.own 0 0] ∧ o = [.arr .int (ones c.length) 0 true]) := by
  have hcb := isC_true hc
  have hn := hc.2.1
  refine FunA.walk B_ok (fn := Try.f84) (fun vs w => Try.call84 vs w) Try.func84 rfl (by rw [Try.ntmps84]; simp) (fun C hC hP hT hΓ hbt hfn hpin hfin => ?_); have hX := BX; rw [← hΓ, ← hbt.1, ← hbt.2] at hX; rw [Try.ntmps84]; simp only [AW7, simprocAttr, hX]
  refine Run.nq ?_; refine Run.regionW hC (fun K hK => ?_); simp only [AW7, simprocAttr, hX]; (repeat (with_reducible refine And.intro ?_ ?_); exact vc0); refine hK _ ?_; clear hK K; refine Run.nq ?_
  refine Run.nq ?_; refine Run.regionW hC (fun K hK => ?_); simp only [AW7, simprocAttr, hX]; (repeat (with_reducible refine And.intro ?_ ?_); exact vc0); refine hK _ ?_; clear hK K; refine Run.nq ?_
  refine Run.nq ?_; refine Run.regionW hC (fun K hK => ?_); simp only [AW7, simprocAttr, hX]; (repeat (with_reducible refine And.intro ?_ ?_); exact vc0); refine hK _ ?_; clear hK K; refine Run.nq ?_
  refine Run.loopI (X := Nat) (fun i => ⟨20, [(0, true, .v (.sl false (.row false) c)), (2, true, .v .nils), (3, true, .v (.own 0 i)), (4, true, .v (.int .i64 i))], [.arr .int (ones i) i true]⟩) (fun i => i ≤ c.length) (fun i => c.length - i) 0 (Nat.zero_le _) ?_ ?_
  · exact Le.sub (by rfl) (by simp only [AW7, simprocAttr, hX]; try simp)
  rintro i hi ih
  have hll := ones_length i
  refine Run.nq ?_; refine Run.regionW hC (fun K hK => ?_); simp only [AW7, simprocAttr, hX]; (repeat (with_reducible refine And.intro ?_ ?_); exact vc0)
  refine .inl (FunA.callG hP hT (c_spec_IsCartan c) (fun _ => rfl) (fun _ => by simp only [AW7, simprocAttr]) ?_)
  (try simp only [AW7, simprocAttr, hX]); (repeat (with_reducible refine And.intro ?_ ?_); exact vc0)
  (repeat (with_reducible refine And.intro ?_ ?_); exact vc0); refine hK _ ?_; clear hK K; refine Run.nq ?_
  refine Run.keep [0, 2, 3, 4, 13] ?_; simp only [AK, Nat.reduceBEq]
  rw [hcb]
  refine Run.nq ?_; refine Run.condW (by simp only [AW7, simprocAttr, hX]; rfl) (by simp only [AW7, simprocAttr, hX]) ?_ ?_
  · intro hc
    have hc : i < c.length := by
      by_cases h : (i : Int) < c.length
      · omega
      · simp [h] at hc
    refine Run.nq ?_; refine Run.regionW hC (fun K hK => ?_); simp only [AW7, simprocAttr, hX]; (repeat (with_reducible refine And.intro ?_ ?_); exact vc0); refine hK _ ?_; clear hK K; refine Run.nq ?_
    refine Run.nq ?_; refine Run.regionW hC (fun K hK => ?_); simp (disch := omega) only [wrap_id, AW7, simprocAttr, hX]; (repeat (with_reducible refine And.intro ?_ ?_); exact vc0); refine hK _ ?_; clear hK K; refine Run.nq ?_
    refine Run.le ?_ (ih (i + 1) hc (by omega))
    refine Le.cut0 hpin [_] (by rw [← ones_succ]; rfl) ?_ rfl
    simp only [AW7, simprocAttr]; try simp
  · intro hc
    have hc : i = c.length := by
      by_cases h : (i : Int) < c.length
      · simp [h] at hc
      · omega
    subst hc
    refine Run.exit rfl ?_; refine Run.nq ?_
    refine Run.nq ?_; refine Run.regionW hC (fun K hK => ?_); simp only [AW7, simprocAttr, hX]; (repeat (with_reducible refine And.intro ?_ ?_); exact vc0); refine hK _ ?_; clear hK K; refine Run.nq ?_
    refine Run.le (Le.re (obs' := [.arr .int (ones c.length) 0 true]) hpin [0] [(2, true, .own 0 0)] rfl (by simp [leOs, leO_arr, oAt]) (by refine ⟨⟨_, rfl, ?_⟩, trivial⟩; simp [leAV, oAt, genO])) ?_
    simp only [frV_cons, frV_nil]
    refine Run.retW [2] (by decide) (by rw [hfn]; rfl) (by simp only [AW7, simprocAttr, hX]; rfl) (by simp only [AW7, simprocAttr, hX]) (hfin _ _ rfl rfl ?_)
    exact ⟨rfl, rfl⟩

/-! ### A reflection -/

theorem wrap_sub_wrap (a b : Int) : IntKind.i64.wrap (a - IntKind.i64.wrap b) = IntKind.i64.wrap (a - b) := by
  unfold IntKind.wrap
  simp [IntKind.bits, IntKind.signed]
  omega
/-- The first numbers are reflected. -/
def reflM (c : List (List Int)) (i : Int) (v : List Int) (m : Nat) : List Int := (List.range v.length).map fun k => if k < m then v.getD k 0 - v.getD i.toNat 0 * ent c k i.toNat else v.getD k 0
theorem reflM_length (c : List (List Int)) (i : Int) (v : List Int) (m : Nat) : (reflM c i v m).length = v.length := by simp [reflM]
theorem reflM_zero (c : List (List Int)) (i : Int) (v : List Int) : reflM c i v 0 = v := by
  apply List.ext_getElem?
  intro k
  by_cases hk : k < v.length
  · simp [reflM, hk]
  · rw [List.getElem?_eq_none (by rw [reflM_length]; omega), List.getElem?_eq_none (by omega)]
theorem reflM_end (c : List (List Int)) (i : Int) (v : List Int) : reflM c i v v.length = reflL c i v := by
  simp only [reflM, reflL]
  apply List.map_congr_left
  intro k hk
  rw [if_pos (List.mem_range.1 hk)]
theorem reflM_get (c : List (List Int)) (i : Int) (v : List Int) (m : Nat) (h : m < v.length) : (reflM c i v m).getD m 0 = v.getD m 0 := by
  simp [reflM, List.getD_eq_getElem?_getD, h]
theorem reflM_set (c : List (List Int)) (i : Int) (v : List Int) (m : Nat) (h : m < v.length) : (reflM c i v m).set m (v.getD m 0 - v.getD i.toNat 0 * ent c m i.toNat) = reflM c i v (m + 1) := by
  apply List.ext_getElem?
  intro k
  rw [List.getElem?_set]
  simp only [reflM, List.length_map, List.length_range]
  by_cases hk : m = k
  · subst hk
    simp [h]
  · rw [if_neg hk]
    by_cases h1 : k < v.length
    · simp only [List.getElem?_map, List.getElem?_range h1, Option.map_some]
      have : (k < m) = (k < m + 1) := by simp only [eq_iff_iff]; omega
      simp [this]
    · rw [List.getElem?_eq_none (by simpa using h1), List.getElem?_eq_none (by simpa using h1)]

theorem c_impl_reflected (c : List (List Int)) (i : Int) (v : List Int) (hc : CartanP c) (hv : v.length = c.length) (hi : 0 ≤ i ∧ i < c.length) (hB : Bd 9223372036854775807 (reflL c i v)) :
    FunM B 88 [.sl false (.row false) c, .int .i64 i, .own 0 0] .int v true (fun rs o => rs = [] ∧ o = [.arr .int (reflL c i v) 0 true]) := by
  have hn := hc.2.1
  have hrow := hc.2.2.1
  refine FunM.walk B_ok (fn := Try.f88) (fun vs w => Try.call88 vs w) Try.func88 rfl (by rw [Try.ntmps88]; simp) (fun C hC hP hT hΓ hbt hfn hpin hfin => ?_); have hX := BX; rw [← hΓ, ← hbt.1, ← hbt.2] at hX; rw [Try.ntmps88]; simp only [AW7, simprocAttr, hX]
  refine Run.nq ?_; refine Run.regionW hC (fun K hK => ?_); simp only [AW7, simprocAttr, hX]; (repeat (with_reducible refine And.intro ?_ ?_); exact vc0); refine hK _ ?_; clear hK K; refine Run.nq ?_
  refine Run.nq ?_; refine Run.regionW hC (fun K hK => ?_); simp only [AW7, simprocAttr, hX]; (repeat (with_reducible refine And.intro ?_ ?_); exact vc0); refine hK _ ?_; clear hK K; refine Run.nq ?_
  refine Run.keep [0, 1, 2, 6, 13, 14] ?_; simp only [AK, Nat.reduceBEq]
  refine Run.loopI (X := Nat) (fun m => ⟨33, [(0, true, .v (.sl false (.row false) c)), (1, true, .v (.int .i64 i)), (2, true, .v (.own 0 0)), (6, true, .v (.int .i64 (v.getD i.toNat 0))), (13, true, .v (.int .i64 v.length)), (14, true, .v (.int .i64 m))], [.arr .int (reflM c i v m) 0 true]⟩) (fun m => m ≤ v.length) (fun m => v.length - m) 0 (Nat.zero_le _) ?_ ?_
  · exact Le.sub (by rw [reflM_zero]) (by simp only [AW7, simprocAttr, hX]; try simp)
  rintro m hm ih
  have hml := reflM_length c i v m
  refine Run.nq ?_; refine Run.regionW hC (fun K hK => ?_); simp only [AW7, simprocAttr, hX]; (repeat (with_reducible refine And.intro ?_ ?_); exact vc0); refine hK _ ?_; clear hK K; refine Run.nq ?_
  refine Run.nq ?_; refine Run.condW (by simp only [AW7, simprocAttr, hX]; rfl) (by simp only [AW7, simprocAttr, hX]) ?_ ?_
  · intro h
    have h : m < v.length := by simpa using h
    have hrm := hrow m (by omega)
    refine Run.nq ?_; refine Run.regionW hC (fun K hK => ?_); simp only [AW7, simprocAttr, hX]; (repeat (with_reducible refine And.intro ?_ ?_); exact vc0); refine hK _ ?_; clear hK K; refine Run.nq ?_
    refine Run.nq ?_; refine Run.regionD hC true [0,1,2,3,4,5,6,7,8,9,10,11,12,13,14,15] (by kernel_rfl) (fun K hK => ?_); simp only [AW7, simprocAttr, hX]; (repeat (with_reducible refine And.intro ?_ ?_); exact vc0); (repeat (with_reducible refine And.intro ?_ ?_); exact vc0); refine hK _ ?_; clear hK K; refine Run.nq ?_
    have e1 : IntKind.i64.wrap ((reflM c i v m).getD m 0 - IntKind.i64.wrap (v.getD i.toNat 0 * ent c m i.toNat)) = v.getD m 0 - v.getD i.toNat 0 * ent c m i.toNat := by
      rw [reflM_get c i v m h, wrap_sub_wrap]
      have := hB m
      rw [reflL_get c i v m h] at this
      exact wrap_id (by omega)
    simp only [e1]
    refine Run.nq ?_; refine Run.regionW hC (fun K hK => ?_); simp (disch := omega) only [wrap_id, AW7, simprocAttr, hX]; (repeat (with_reducible refine And.intro ?_ ?_); exact vc0); refine hK _ ?_; clear hK K; refine Run.nq ?_
    refine Run.le ?_ (ih (m + 1) h (by omega))
    refine Le.sub (by rw [reflM_set c i v m h]) ?_
    simp only [AW7, simprocAttr]; try simp
  · intro h
    have h : m = v.length := by simp at h; omega
    subst h
    refine Run.exit rfl ?_; refine Run.nq ?_
    rw [reflM_end]
    refine Run.doneW (xs := []) [] (by decide) (by rw [hfn]; rfl) rfl trivial (hfin _ _ _ rfl rfl rfl ?_)
    exact ⟨rfl, rfl⟩
end Go.Proofs.Ytdhfonblpbpmmaa

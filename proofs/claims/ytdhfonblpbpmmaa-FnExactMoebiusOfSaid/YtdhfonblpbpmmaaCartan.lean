/- What a Cartan matrix is, and that the program and the reference tell it alike. -/
import Derived.Test.YtdhfonblpbpmmaaBase2
set_option linter.unusedVariables false
set_option linter.unusedSimpArgs false
namespace Go.Proofs.Ytdhfonblpbpmmaa
open Go Go.Aw

abbrev ent (c : List (List Int)) (i j : Nat) : Int := (c.getD i []).getD j 0
def badE (c : List (List Int)) (i j : Nat) : Prop := (i = j ∧ ent c i j ≠ 2) ∨ (i ≠ j ∧ (ent c i j < -3 ∨ ent c i j > 0 ∨ ¬ (ent c i j = 0 ↔ ent c j i = 0)))
/-- A Cartan matrix of at most four points with entries of at least -3. -/
def CartanP (c : List (List Int)) : Prop := 1 ≤ c.length ∧ c.length ≤ 4 ∧ (∀ i, i < c.length → (c.getD i []).length = c.length) ∧ ∀ i j, i < c.length → j < c.length → ¬ badE c i j
open Classical in
noncomputable def isC (c : List (List Int)) : Bool := decide (CartanP c)
theorem isC_iff {c : List (List Int)} : isC c = true ↔ CartanP c := by simp [isC]
theorem isC_false {c : List (List Int)} (h : ¬ CartanP c) : isC c = false := by simp [isC, h]
theorem isC_true {c : List (List Int)} (h : CartanP c) : isC c = true := isC_iff.2 h

theorem badE_impl (c : List (List Int)) (i j : Nat) : (bif bif (i : Int) == (j : Int) then ent c i j != 2 else false then true
                else
                  bif (i : Int) != (j : Int) then
                    bif
                        bif decide (ent c i j < -3) then true
                        else decide (0 < ent c i j) then
                      true
                    else (ent c i j == 0) != (ent c j i == 0)
                  else false) = true ↔ badE c i j := by
  unfold badE
  have e : ((i : Int) == (j : Int)) = decide (i = j) := by
    rw [Bool.eq_iff_iff]; simp; omega
  have e2 : ((i : Int) != (j : Int)) = !decide (i = j) := by rw [← e]; rfl
  rw [e, e2]
  generalize ent c i j = x
  generalize ent c j i = y
  have e3 : (x == 0) = decide (x = 0) := by rw [Bool.eq_iff_iff]; simp
  have e4 : (y == 0) = decide (y = 0) := by rw [Bool.eq_iff_iff]; simp
  rw [e3, e4]
  by_cases h : i = j
  · simp [h]
  · simp only [h, decide_false, cond_false, Bool.not_false, cond_true, false_and, ne_eq, not_false_eq_true, true_and, false_or]
    by_cases h1 : x < -3
    · simp [h1]
    · by_cases h2 : 0 < x
      · simp [h2]
      · simp only [h1, h2, decide_false, cond_false, false_or]
        by_cases h3 : x = 0 <;> by_cases h4 : y = 0 <;> simp [h3, h4]

theorem c_impl_IsCartan (c : List (List Int)) : FunA B 59 [.sl false (.row false) c] (fun rs o => rs = [.bool (isC c)] ∧ o = []) := by
  refine FunA.walk B_ok (fn := Try.f59) (fun vs w => Try.call59 vs w) Try.func59 rfl (by rw [Try.ntmps59]; simp) (fun C hC hP hT hΓ hbt hfn hpin hfin => ?_); have hX := BX; rw [← hΓ, ← hbt.1, ← hbt.2] at hX; rw [Try.ntmps59]; simp only [AW7, simprocAttr, hX]
  refine Run.len 0 rfl fun hlen => ?_
  refine Run.nq ?_; refine Run.regionW hC (fun K hK => ?_); simp only [AW7, simprocAttr, hX]; (repeat (with_reducible refine And.intro ?_ ?_); exact vc0); refine hK _ ?_; clear hK K; refine Run.nq ?_
  refine Run.nq ?_; refine Run.regionW hC (fun K hK => ?_); simp only [AW7, simprocAttr, hX]; (repeat (with_reducible refine And.intro ?_ ?_); exact vc0); refine hK _ ?_; clear hK K; refine Run.nq ?_
  refine Run.nq ?_; refine Run.regionW hC (fun K hK => ?_); simp only [AW7, simprocAttr, hX]; (repeat (with_reducible refine And.intro ?_ ?_); exact vc0); refine hK _ ?_; clear hK K; refine Run.nq ?_
  refine Run.keep [0, 2, 3, 16] ?_; simp only [AK, Nat.reduceBEq]
  refine Run.nq ?_; refine Run.condW (by simp only [AW7, simprocAttr, hX]; rfl) (by simp only [AW7, simprocAttr, hX]) ?_ ?_
  · intro hc
    refine Run.nq ?_; refine Run.regionW hC (fun K hK => ?_); simp only [AW7, simprocAttr, hX]; (repeat (with_reducible refine And.intro ?_ ?_); exact vc0); refine hK _ ?_; clear hK K; refine Run.nq ?_
    refine Run.retW [2] (by decide) (by rw [hfn]; rfl) (by simp only [AW7, simprocAttr, hX]; rfl) (by simp only [AW7, simprocAttr, hX]) (hfin _ _ rfl rfl ?_)
    refine ⟨?_, rfl⟩
    rw [isC_false fun h => ?_]
    obtain ⟨h1, h2, _⟩ := h
    by_cases h3 : (c.length : Int) < 1
    · omega
    · simp [h3] at hc; omega
  intro hc
  have hn : 1 ≤ c.length ∧ c.length ≤ 4 := by
    by_cases h3 : (c.length : Int) < 1
    · simp [h3] at hc
    · simp [h3] at hc; omega
  refine Run.nq ?_; refine Run.regionW hC (fun K hK => ?_); simp only [AW7, simprocAttr, hX]; (repeat (with_reducible refine And.intro ?_ ?_); exact vc0); refine hK _ ?_; clear hK K; refine Run.nq ?_
  refine Run.keep [0, 2, 3, 17, 18, 19] ?_; simp only [AK, Nat.reduceBEq]
  refine Run.loopI (X := Nat) (fun i => ⟨78, [(0, true, .v (.sl false (.row false) c)), (2, true, .v (.bool false)), (3, true, .v (.int .i64 c.length)), (17, true, .v (.sl false (.row false) c)), (18, true, .v (.int .i64 c.length)), (19, true, .v (.int .i64 i))], []⟩) (fun i => i ≤ c.length ∧ ∀ k, k < i → (c.getD k []).length = c.length) (fun i => c.length - i) 0 ⟨Nat.zero_le _, by omega⟩ ?_ ?_
  · exact Le.sub (by simp only [AW7, simprocAttr]) (by simp only [AW7, simprocAttr]; try simp)
  rintro i ⟨hi, hrow⟩ ih
  refine Run.nq ?_; refine Run.regionW hC (fun K hK => ?_); simp only [AW7, simprocAttr, hX]; (repeat (with_reducible refine And.intro ?_ ?_); exact vc0); refine hK _ ?_; clear hK K; refine Run.nq ?_
  refine Run.nq ?_; refine Run.condW (by simp only [AW7, simprocAttr, hX]; rfl) (by simp only [AW7, simprocAttr, hX]) ?_ ?_
  · intro hc2
    have hc2 : i < c.length := by simpa using hc2
    refine Run.nq ?_; refine Run.regionW hC (fun K hK => ?_); simp only [AW7, simprocAttr, hX]; (repeat (with_reducible refine And.intro ?_ ?_); exact vc0); refine hK _ ?_; clear hK K; refine Run.nq ?_
    refine Run.nq ?_; refine Run.regionW hC (fun K hK => ?_); simp only [AW7, simprocAttr, hX]; (repeat (with_reducible refine And.intro ?_ ?_); exact vc0); refine hK _ ?_; clear hK K; refine Run.nq ?_
    refine Run.nq ?_; refine Run.condW (by simp only [AW7, simprocAttr, hX]; rfl) (by simp only [AW7, simprocAttr, hX]) ?_ ?_
    · intro hne
      refine Run.nq ?_; refine Run.regionW hC (fun K hK => ?_); simp only [AW7, simprocAttr, hX]; (repeat (with_reducible refine And.intro ?_ ?_); exact vc0); refine hK _ ?_; clear hK K; refine Run.nq ?_
      refine Run.retW [2] (by decide) (by rw [hfn]; rfl) (by simp only [AW7, simprocAttr, hX]; rfl) (by simp only [AW7, simprocAttr, hX]) (hfin _ _ rfl rfl ?_)
      refine ⟨?_, rfl⟩
      rw [isC_false fun h => ?_]
      have := h.2.2.1 i hc2
      have hne : ¬ (c.getD i []).length = c.length := by simp [-List.getD_eq_getElem?_getD] at hne; omega
      exact hne this
    · intro heq
      have heq : (c.getD i []).length = c.length := by simp [-List.getD_eq_getElem?_getD] at heq; omega
      refine Run.nq ?_; refine Run.regionW hC (fun K hK => ?_); simp (disch := omega) only [wrap_id, AW7, simprocAttr, hX]; (repeat (with_reducible refine And.intro ?_ ?_); exact vc0); refine hK _ ?_; clear hK K; refine Run.nq ?_
      refine Run.le ?_ (ih (i + 1) ⟨hc2, fun k hk => ?_⟩ (by omega))
      · exact Le.sub (by simp only [AW7, simprocAttr]) (by simp only [AW7, simprocAttr, Option.some.injEq, Prod.mk.injEq, Sl.v.injEq, AV.int.injEq, AV.own.injEq, AV.bool.injEq]; try (repeat' apply And.intro); all_goals omega)
      · rcases Nat.lt_succ_iff_lt_or_eq.1 hk with h | rfl
        · exact hrow k h
        · exact heq
  intro hc2
  have hc2 : i = c.length := by simp at hc2; omega
  subst hc2
  refine Run.exit rfl ?_; refine Run.nq ?_
  refine Run.nq ?_; refine Run.regionW hC (fun K hK => ?_); simp only [AW7, simprocAttr, hX]; (repeat (with_reducible refine And.intro ?_ ?_); exact vc0); refine hK _ ?_; clear hK K; refine Run.nq ?_
  refine Run.keep [0, 2, 3, 28, 29] ?_; simp only [AK, Nat.reduceBEq]
  refine Run.loopI (X := Nat) (fun i => ⟨78, [(0, true, .v (.sl false (.row false) c)), (2, true, .v (.bool false)), (3, true, .v (.int .i64 c.length)), (28, true, .v (.int .i64 c.length)), (29, true, .v (.int .i64 i))], []⟩) (fun i => i ≤ c.length ∧ ∀ k j, k < i → j < c.length → ¬ badE c k j) (fun i => c.length - i) 0 ⟨Nat.zero_le _, by omega⟩ ?_ ?_
  · exact Le.sub (by simp only [AW7, simprocAttr]) (by simp only [AW7, simprocAttr]; try simp)
  clear ih
  rintro i ⟨hi, hcel⟩ ih
  refine Run.nq ?_; refine Run.regionW hC (fun K hK => ?_); simp only [AW7, simprocAttr, hX]; (repeat (with_reducible refine And.intro ?_ ?_); exact vc0); refine hK _ ?_; clear hK K; refine Run.nq ?_
  refine Run.nq ?_; refine Run.condW (by simp only [AW7, simprocAttr, hX]; rfl) (by simp only [AW7, simprocAttr, hX]) ?_ ?_
  · intro hc2
    have hc2 : i < c.length := by simpa using hc2
    have hri := hrow i hc2
    refine Run.nq ?_; refine Run.regionW hC (fun K hK => ?_); simp only [AW7, simprocAttr, hX]; (repeat (with_reducible refine And.intro ?_ ?_); exact vc0); refine hK _ ?_; clear hK K; refine Run.nq ?_
    refine Run.nq ?_; refine Run.regionW hC (fun K hK => ?_); simp only [AW7, simprocAttr, hX]; (repeat (with_reducible refine And.intro ?_ ?_); exact vc0); refine hK _ ?_; clear hK K; refine Run.nq ?_
    refine Run.keep [0, 2, 3, 28, 29, 6, 32, 33] ?_; simp only [AK, Nat.reduceBEq]
    refine Run.loopI (X := Nat) (fun j => ⟨78, [(0, true, .v (.sl false (.row false) c)), (2, true, .v (.bool false)), (3, true, .v (.int .i64 c.length)), (28, true, .v (.int .i64 c.length)), (29, true, .v (.int .i64 i)), (6, true, .v (.int .i64 i)), (32, true, .v (.int .i64 c.length)), (33, true, .v (.int .i64 j))], []⟩) (fun j => j ≤ c.length ∧ ∀ q, q < j → ¬ badE c i q) (fun j => c.length - j) 0 ⟨Nat.zero_le _, by omega⟩ ?_ ?_
    · exact Le.sub (by simp only [AW7, simprocAttr]) (by simp only [AW7, simprocAttr]; try simp)
    rintro j ⟨hj, hcj⟩ ihj
    refine Run.nq ?_; refine Run.regionW hC (fun K hK => ?_); simp only [AW7, simprocAttr, hX]; (repeat (with_reducible refine And.intro ?_ ?_); exact vc0); refine hK _ ?_; clear hK K; refine Run.nq ?_
    refine Run.nq ?_; refine Run.condW (by simp only [AW7, simprocAttr, hX]; rfl) (by simp only [AW7, simprocAttr, hX]) ?_ ?_
    · intro hc3
      have hc3 : j < c.length := by simpa using hc3
      have hrj := hrow j hc3
      refine Run.nq ?_; refine Run.regionW hC (fun K hK => ?_); simp only [AW7, simprocAttr, hX]; (repeat (with_reducible refine And.intro ?_ ?_); exact vc0); refine hK _ ?_; clear hK K; refine Run.nq ?_
      refine Run.nq ?_; refine Run.regionW hC (fun K hK => ?_); simp only [AW7, simprocAttr, hX]; (repeat (with_reducible refine And.intro ?_ ?_); exact vc0); refine hK _ ?_; clear hK K; refine Run.nq ?_
      refine Run.nq ?_; refine Run.regionW hC (fun K hK => ?_); simp only [AW7, simprocAttr, hX]; (repeat (with_reducible refine And.intro ?_ ?_); exact vc0); refine hK _ ?_; clear hK K; refine Run.nq ?_
      refine Run.keep [0, 2, 3, 28, 29, 6, 32, 33, 75] ?_; simp only [AK, Nat.reduceBEq]
      refine Run.nq ?_; refine Run.condW (by simp only [AW7, simprocAttr, hX]; rfl) (by simp only [AW7, simprocAttr, hX]) ?_ ?_
      · intro hb
        have hb := (badE_impl c i j).1 hb
        refine Run.nq ?_; refine Run.regionW hC (fun K hK => ?_); simp only [AW7, simprocAttr, hX]; (repeat (with_reducible refine And.intro ?_ ?_); exact vc0); refine hK _ ?_; clear hK K; refine Run.nq ?_
        refine Run.retW [2] (by decide) (by rw [hfn]; rfl) (by simp only [AW7, simprocAttr, hX]; rfl) (by simp only [AW7, simprocAttr, hX]) (hfin _ _ rfl rfl ?_)
        refine ⟨?_, rfl⟩
        rw [isC_false fun h => h.2.2.2 i j hc2 hc3 hb]
      · intro hb
        have hb : ¬ badE c i j := fun h => by
          have := (badE_impl c i j).2 h
          rw [this] at hb
          cases hb
        refine Run.nq ?_; refine Run.regionW hC (fun K hK => ?_); simp (disch := omega) only [wrap_id, AW7, simprocAttr, hX]; (repeat (with_reducible refine And.intro ?_ ?_); exact vc0); refine hK _ ?_; clear hK K; refine Run.nq ?_
        refine Run.le ?_ (ihj (j + 1) ⟨hc3, fun q hq => ?_⟩ (by omega))
        · exact Le.sub (by simp only [AW7, simprocAttr]) (by simp only [AW7, simprocAttr, Option.some.injEq, Prod.mk.injEq, Sl.v.injEq, AV.int.injEq, AV.own.injEq, AV.bool.injEq]; try (repeat' apply And.intro); all_goals omega)
        · rcases Nat.lt_succ_iff_lt_or_eq.1 hq with h | rfl
          · exact hcj q h
          · exact hb
    · intro hc3
      have hc3 : j = c.length := by simp at hc3; omega
      subst hc3
      refine Run.exit rfl ?_; refine Run.nq ?_
      refine Run.nq ?_; refine Run.regionW hC (fun K hK => ?_); simp (disch := omega) only [wrap_id, AW7, simprocAttr, hX]; (repeat (with_reducible refine And.intro ?_ ?_); exact vc0); refine hK _ ?_; clear hK K; refine Run.nq ?_
      refine Run.le ?_ (ih (i + 1) ⟨hc2, fun k q hk hq => ?_⟩ (by omega))
      · exact Le.sub (by simp only [AW7, simprocAttr]) (by simp only [AW7, simprocAttr, Option.some.injEq, Prod.mk.injEq, Sl.v.injEq, AV.int.injEq, AV.own.injEq, AV.bool.injEq]; try (repeat' apply And.intro); all_goals omega)
      · rcases Nat.lt_succ_iff_lt_or_eq.1 hk with h | rfl
        · exact hcel k q h hq
        · exact hcj q hq
  · intro hc2
    have hc2 : i = c.length := by simp at hc2; omega
    subst hc2
    refine Run.exit rfl ?_; refine Run.nq ?_
    refine Run.nq ?_; refine Run.regionW hC (fun K hK => ?_); simp only [AW7, simprocAttr, hX]; (repeat (with_reducible refine And.intro ?_ ?_); exact vc0); refine hK _ ?_; clear hK K; refine Run.nq ?_
    refine Run.retW [2] (by decide) (by rw [hfn]; rfl) (by simp only [AW7, simprocAttr, hX]; rfl) (by simp only [AW7, simprocAttr, hX]) (hfin _ _ rfl rfl ?_)
    refine ⟨?_, rfl⟩
    rw [isC_true ⟨hn.1, hn.2, hrow, fun k q hk hq => hcel k q hk hq⟩]

def inB (x lo hi : Int) : Bool := bif decide (x ≥ lo) then decide (x ≤ hi) else false
theorem inB_iff {x lo hi : Int} : inB x lo hi = true ↔ lo ≤ x ∧ x ≤ hi := by
  unfold inB
  by_cases h : x ≥ lo <;> simp [h] <;> omega
theorem c_spec_l1In (x lo hi : Int) : FunA B 61 [.int .i64 x, .int .i64 lo, .int .i64 hi] (fun rs o => rs = [.bool (inB x lo hi)] ∧ o = []) := by
  refine FunA.walk B_ok (fn := Try.f61) (fun vs w => Try.call61 vs w) Try.func61 rfl (by rw [Try.ntmps61]; simp) (fun C hC hP hT hΓ hbt hfn hpin hfin => ?_); have hX := BX; rw [← hΓ, ← hbt.1, ← hbt.2] at hX; rw [Try.ntmps61]; simp only [AW7, simprocAttr, hX]
  refine Run.nq ?_; refine Run.regionW hC (fun K hK => ?_); simp only [AW7, simprocAttr, hX]; (repeat (with_reducible refine And.intro ?_ ?_); exact vc0); refine hK _ ?_; clear hK K; refine Run.nq ?_
  refine Run.nq ?_; refine Run.regionW hC (fun K hK => ?_); simp only [AW7, simprocAttr, hX]; (repeat (with_reducible refine And.intro ?_ ?_); exact vc0); refine hK _ ?_; clear hK K; refine Run.nq ?_
  refine Run.retW [6] (by decide) (by rw [hfn]; rfl) (by simp only [AW7, simprocAttr, hX]; rfl) (by simp only [AW7, simprocAttr, hX]) (hfin _ _ rfl rfl ?_)
  exact ⟨rfl, rfl⟩

theorem badE_spec (c : List (List Int)) (i j : Nat) : (bif bif (i : Int) == (j : Int) then ent c i j != 2 else false then true
                else
                  bif (i : Int) != (j : Int) then
                    bif !inB (ent c i j) (-3) 0 then true
                    else (ent c i j == 0) != (ent c j i == 0)
                  else false) = true ↔ badE c i j := by
  rw [← badE_impl]
  have : (!inB (ent c i j) (-3) 0) = (bif decide (ent c i j < -3) then true else decide (0 < ent c i j)) := by
    generalize ent c i j = x
    unfold inB
    by_cases h1 : x < -3
    · have : ¬ x ≥ -3 := by omega
      simp [h1, this]
    · have : x ≥ -3 := by omega
      by_cases h2 : 0 < x
      · have h3 : ¬ x ≤ 0 := by omega
        simp [h1, this, h2, h3]
      · have h3 : x ≤ 0 := by omega
        simp [h1, this, h2, h3]
  rw [this]

theorem c_spec_IsCartan (c : List (List Int)) : FunA B 62 [.sl false (.row false) c] (fun rs o => rs = [.bool (isC c)] ∧ o = []) := by
  refine FunA.walk B_ok (fn := Try.f62) (fun vs w => Try.call62 vs w) Try.func62 rfl (by rw [Try.ntmps62]; simp) (fun C hC hP hT hΓ hbt hfn hpin hfin => ?_); have hX := BX; rw [← hΓ, ← hbt.1, ← hbt.2] at hX; rw [Try.ntmps62]; simp only [AW7, simprocAttr, hX]
  refine Run.len 0 rfl fun hlen => ?_
  refine Run.nq ?_; refine Run.regionW hC (fun K hK => ?_); simp only [AW7, simprocAttr, hX]; (repeat (with_reducible refine And.intro ?_ ?_); exact vc0); refine hK _ ?_; clear hK K; refine Run.nq ?_
  refine Run.nq ?_; refine Run.regionW hC (fun K hK => ?_); simp only [AW7, simprocAttr, hX]; (repeat (with_reducible refine And.intro ?_ ?_); exact vc0); refine hK _ ?_; clear hK K; refine Run.nq ?_
  refine Run.loopI (X := Nat) (fun i => ⟨83, [(0, true, .v (.sl false (.row false) c)), (2, true, .v (.bool false)), (3, true, .v (.int .i64 i))], []⟩) (fun i => i ≤ c.length ∧ ∀ k, k < i → (c.getD k []).length = c.length) (fun i => c.length - i) 0 ⟨Nat.zero_le _, by omega⟩ ?_ ?_
  · exact Le.sub (by simp only [AW7, simprocAttr]) (by simp only [AW7, simprocAttr]; try simp)
  rintro i ⟨hi, hrow⟩ ih
  refine Run.nq ?_; refine Run.regionW hC (fun K hK => ?_); simp only [AW7, simprocAttr, hX]; (repeat (with_reducible refine And.intro ?_ ?_); exact vc0); refine hK _ ?_; clear hK K; refine Run.nq ?_
  refine Run.nq ?_; refine Run.condW (by simp only [AW7, simprocAttr, hX]; rfl) (by simp only [AW7, simprocAttr, hX]) ?_ ?_
  · intro hc2
    have hc2 : i < c.length := by simpa using hc2
    refine Run.nq ?_; refine Run.regionW hC (fun K hK => ?_); simp only [AW7, simprocAttr, hX]; (repeat (with_reducible refine And.intro ?_ ?_); exact vc0); refine hK _ ?_; clear hK K; refine Run.nq ?_
    refine Run.nq ?_; refine Run.condW (by simp only [AW7, simprocAttr, hX]; rfl) (by simp only [AW7, simprocAttr, hX]) ?_ ?_
    · intro hne
      refine Run.nq ?_; refine Run.regionW hC (fun K hK => ?_); simp only [AW7, simprocAttr, hX]; (repeat (with_reducible refine And.intro ?_ ?_); exact vc0); refine hK _ ?_; clear hK K; refine Run.nq ?_
      refine Run.retW [2] (by decide) (by rw [hfn]; rfl) (by simp only [AW7, simprocAttr, hX]; rfl) (by simp only [AW7, simprocAttr, hX]) (hfin _ _ rfl rfl ?_)
      refine ⟨?_, rfl⟩
      rw [isC_false fun h => ?_]
      have := h.2.2.1 i hc2
      have hne : ¬ (c.getD i []).length = c.length := by simp [-List.getD_eq_getElem?_getD] at hne; omega
      exact hne this
    · intro heq
      have heq : (c.getD i []).length = c.length := by simp [-List.getD_eq_getElem?_getD] at heq; omega
      refine Run.nq ?_; refine Run.regionW hC (fun K hK => ?_); simp (disch := omega) only [wrap_id, AW7, simprocAttr, hX]; (repeat (with_reducible refine And.intro ?_ ?_); exact vc0); refine hK _ ?_; clear hK K; refine Run.nq ?_
      refine Run.le ?_ (ih (i + 1) ⟨hc2, fun k hk => ?_⟩ (by omega))
      · exact Le.sub (by simp only [AW7, simprocAttr]) (by simp only [AW7, simprocAttr, Option.some.injEq, Prod.mk.injEq, Sl.v.injEq, AV.int.injEq, AV.own.injEq, AV.bool.injEq]; try (repeat' apply And.intro); all_goals omega)
      · rcases Nat.lt_succ_iff_lt_or_eq.1 hk with h | rfl
        · exact hrow k h
        · exact heq
  intro hc2
  have hc2 : i = c.length := by simp at hc2; omega
  subst hc2
  refine Run.exit rfl ?_; refine Run.nq ?_
  refine Run.nq ?_; refine Run.regionW hC (fun K hK => ?_); simp only [AW7, simprocAttr, hX]; (repeat (with_reducible refine And.intro ?_ ?_); exact vc0); refine hK _ ?_; clear hK K; refine Run.nq ?_
  refine Run.keep [0, 2, 4] ?_; simp only [AK, Nat.reduceBEq]
  refine Run.loopI (X := Nat) (fun i => ⟨83, [(0, true, .v (.sl false (.row false) c)), (2, true, .v (.bool false)), (4, true, .v (.int .i64 i))], []⟩) (fun i => i ≤ c.length ∧ ∀ k j, k < i → j < c.length → ¬ badE c k j) (fun i => c.length - i) 0 ⟨Nat.zero_le _, by omega⟩ ?_ ?_
  · exact Le.sub (by simp only [AW7, simprocAttr]) (by simp only [AW7, simprocAttr]; try simp)
  clear ih
  rintro i ⟨hi, hcel⟩ ih
  refine Run.nq ?_; refine Run.regionW hC (fun K hK => ?_); simp only [AW7, simprocAttr, hX]; (repeat (with_reducible refine And.intro ?_ ?_); exact vc0); refine hK _ ?_; clear hK K; refine Run.nq ?_
  refine Run.nq ?_; refine Run.condW (by simp only [AW7, simprocAttr, hX]; rfl) (by simp only [AW7, simprocAttr, hX]) ?_ ?_
  · intro hc2
    have hc2 : i < c.length := by simpa using hc2
    have hri := hrow i hc2
    refine Run.nq ?_; refine Run.regionW hC (fun K hK => ?_); simp only [AW7, simprocAttr, hX]; (repeat (with_reducible refine And.intro ?_ ?_); exact vc0); refine hK _ ?_; clear hK K; refine Run.nq ?_
    refine Run.keep [0, 2, 4, 5] ?_; simp only [AK, Nat.reduceBEq]
    refine Run.loopI (X := Nat) (fun j => ⟨83, [(0, true, .v (.sl false (.row false) c)), (2, true, .v (.bool false)), (4, true, .v (.int .i64 i)), (5, true, .v (.int .i64 j))], []⟩) (fun j => j ≤ c.length ∧ ∀ q, q < j → ¬ badE c i q) (fun j => c.length - j) 0 ⟨Nat.zero_le _, by omega⟩ ?_ ?_
    · exact Le.sub (by simp only [AW7, simprocAttr]) (by simp only [AW7, simprocAttr]; try simp)
    rintro j ⟨hj, hcj⟩ ihj
    refine Run.nq ?_; refine Run.regionW hC (fun K hK => ?_); simp only [AW7, simprocAttr, hX]; (repeat (with_reducible refine And.intro ?_ ?_); exact vc0); refine hK _ ?_; clear hK K; refine Run.nq ?_
    refine Run.nq ?_; refine Run.condW (by simp only [AW7, simprocAttr, hX]; rfl) (by simp only [AW7, simprocAttr, hX]) ?_ ?_
    · intro hc3
      have hc3 : j < c.length := by simpa using hc3
      have hrj := hrow j hc3
      refine Run.keep [0, 2, 4, 5] ?_; simp only [AK, Nat.reduceBEq]
      refine Run.nq ?_
      refine Run.regionD hC true [0,1,2,3,4,5,6,7,8,9,10,11,12,13,14,15,16,17,18,19,20,21,22,23,24,25,26,27,28,29,30,31,32,33,34,35,36,37,38,39,40,41,42,43,44,45,46,47] (by kernel_rfl) (fun K hK => ?_)
      simp only [AW7, simprocAttr, hX]
      (repeat (with_reducible refine And.intro ?_ ?_); exact vc0)
      refine .inl (FunA.callG hP hT (c_spec_l1In (ent c i j) (-3) 0) (fun _ => rfl) (fun _ => by simp only [AW7, simprocAttr]) ?_)
      (try simp only [AW7, simprocAttr, hX]); (repeat (with_reducible refine And.intro ?_ ?_); exact vc0)
      refine hK _ ?_
      clear hK K
      refine Run.nq ?_
      refine Run.nq ?_; refine Run.condW (by simp only [AW7, simprocAttr, hX]; rfl) (by simp only [AW7, simprocAttr, hX]) ?_ ?_
      · intro hb
        have hb := (badE_spec c i j).1 hb
        refine Run.nq ?_; refine Run.regionW hC (fun K hK => ?_); simp only [AW7, simprocAttr, hX]; (repeat (with_reducible refine And.intro ?_ ?_); exact vc0); refine hK _ ?_; clear hK K; refine Run.nq ?_
        refine Run.retW [2] (by decide) (by rw [hfn]; rfl) (by simp only [AW7, simprocAttr, hX]; rfl) (by simp only [AW7, simprocAttr, hX]) (hfin _ _ rfl rfl ?_)
        refine ⟨?_, rfl⟩
        rw [isC_false fun h => h.2.2.2 i j hc2 hc3 hb]
      · intro hb
        have hb : ¬ badE c i j := fun h => by
          have := (badE_spec c i j).2 h
          rw [this] at hb
          cases hb
        refine Run.keep [0, 2, 4, 5] ?_; simp only [AK, Nat.reduceBEq]
        refine Run.nq ?_; refine Run.regionW hC (fun K hK => ?_); simp (disch := omega) only [wrap_id, AW7, simprocAttr, hX]; (repeat (with_reducible refine And.intro ?_ ?_); exact vc0); refine hK _ ?_; clear hK K; refine Run.nq ?_
        refine Run.le ?_ (ihj (j + 1) ⟨hc3, fun q hq => ?_⟩ (by omega))
        · exact Le.sub (by simp only [AW7, simprocAttr]) (by simp only [AW7, simprocAttr, Option.some.injEq, Prod.mk.injEq, Sl.v.injEq, AV.int.injEq, AV.own.injEq, AV.bool.injEq]; try (repeat' apply And.intro); all_goals omega)
        · rcases Nat.lt_succ_iff_lt_or_eq.1 hq with h | rfl
          · exact hcj q h
          · exact hb
    · intro hc3
      have hc3 : j = c.length := by simp at hc3; omega
      subst hc3
      refine Run.exit rfl ?_; refine Run.nq ?_
      refine Run.nq ?_; refine Run.regionW hC (fun K hK => ?_); simp (disch := omega) only [wrap_id, AW7, simprocAttr, hX]; (repeat (with_reducible refine And.intro ?_ ?_); exact vc0); refine hK _ ?_; clear hK K; refine Run.nq ?_
      refine Run.le ?_ (ih (i + 1) ⟨hc2, fun k q hk hq => ?_⟩ (by omega))
      · exact Le.sub (by simp only [AW7, simprocAttr]) (by simp only [AW7, simprocAttr, Option.some.injEq, Prod.mk.injEq, Sl.v.injEq, AV.int.injEq, AV.own.injEq, AV.bool.injEq]; try (repeat' apply And.intro); all_goals omega)
      · rcases Nat.lt_succ_iff_lt_or_eq.1 hk with h | rfl
        · exact hcel k q h hq
        · exact hcj q hq
  · intro hc2
    have hc2 : i = c.length := by simp at hc2; omega
    subst hc2
    refine Run.exit rfl ?_; refine Run.nq ?_
    refine Run.nq ?_; refine Run.regionW hC (fun K hK => ?_); simp only [AW7, simprocAttr, hX]; (repeat (with_reducible refine And.intro ?_ ?_); exact vc0)
    refine FunA.callW hP hT (c_spec_l1In (c.length : Int) 1 4) (by simp only [AW7, simprocAttr]) ?_
    rintro rs o ⟨rfl, rfl⟩
    (try simp only [AW7, simprocAttr, hX]); (repeat (with_reducible refine And.intro ?_ ?_); exact vc0)
    (repeat (with_reducible refine And.intro ?_ ?_); exact vc0); refine hK _ ?_; clear hK K; refine Run.nq ?_
    refine Run.retW [2] (by decide) (by rw [hfn]; rfl) (by simp only [AW7, simprocAttr, hX]; rfl) (by simp only [AW7, simprocAttr, hX]) (hfin _ _ rfl rfl ?_)
    refine ⟨?_, rfl⟩
    have : isC c = inB c.length 1 4 := by
      rw [Bool.eq_iff_iff, isC_iff, inB_iff]
      constructor
      · intro h; have h1 := h.1; have h2 := h.2.1; omega
      · intro h; exact ⟨by omega, by omega, hrow, fun k q hk hq => hcel k q hk hq⟩
    rw [this]
end Go.Proofs.Ytdhfonblpbpmmaa

/- What the laws' marks on matrices do. -/
import Derived.Test.YtaghdbbcadhjdaaGreatDoorB7
import Derived.Test.YtaghdbbcadhjdaaGreatDoorB10
import Derived.Test.YtaghdbbcadhjdaaGreatDoorB9
import Derived.Test.YtaghdbbcadhjdaaGreatDoorB8
set_option linter.unusedVariables false
set_option linter.unusedSimpArgs false
namespace Go.Proofs.YtaghdbbcadhjdaaGreatDoor
open Go Go.Aw
def sumL : List (List Int) → Nat
  | [] => 0
  | r :: rs => r.length + sumL rs
def iotaR (k : Int) : List (List Int) → List (List Int)
  | [] => []
  | r :: rs => iota k r.length :: iotaR (k + r.length) rs
theorem iotaR_length (k : Int) : ∀ rows, (iotaR k rows).length = rows.length
  | [] => rfl
  | r :: rs => by simp [iotaR, iotaR_length (k + r.length) rs]
theorem sumL_append : ∀ a b, sumL (a ++ b) = sumL a + sumL b
  | [], b => by simp [sumL]
  | r :: rs, b => by simp [sumL, sumL_append rs b]; omega
theorem iotaR_append (k : Int) : ∀ a b, iotaR k (a ++ b) = iotaR k a ++ iotaR (k + sumL a) b
  | [], b => by simp [iotaR, sumL]
  | r :: rs, b => by simp [iotaR, sumL, iotaR_append (k + r.length) rs b]; congr 1; omega
theorem sumL_iotaR (k : Int) : ∀ rows, sumL (iotaR k rows) = sumL rows
  | [] => rfl
  | r :: rs => by simp [iotaR, sumL, iota_length, sumL_iotaR]
theorem sumL_take (rows : List (List Int)) (i : Nat) : sumL (rows.take i) ≤ sumL rows := by
  have := sumL_append (rows.take i) (rows.drop i)
  rw [List.take_append_drop] at this
  omega
theorem sumL_snoc (rows : List (List Int)) (i : Nat) (h : i < rows.length) : sumL (rows.take (i + 1)) = sumL (rows.take i) + (rows.getD i []).length := by
  rw [← take_snoc [] rows i h, sumL_append]
  simp [sumL]
theorem iotaR_snoc (k : Int) (rows : List (List Int)) (i : Nat) (h : i < rows.length) : iotaR k (rows.take (i + 1)) = iotaR k (rows.take i) ++ [iota (k + sumL (rows.take i)) (rows.getD i []).length] := by
  rw [← take_snoc [] rows i h, iotaR_append]
  simp [iotaR]
theorem mark_get (k : Int) (rows : List (List Int)) (i : Nat) (h : i < rows.length) : (iotaR k (rows.take i) ++ rows.drop i).getD i [] = rows.getD i [] := by
  have hl : (iotaR k (rows.take i)).length = i := by rw [iotaR_length]; simp; omega
  simp only [List.getD_eq_getElem?_getD]
  rw [List.getElem?_append_right (by omega), hl, Nat.sub_self]
  simp
theorem mark_set (k : Int) (rows : List (List Int)) (i : Nat) (h : i < rows.length) : (iotaR k (rows.take i) ++ rows.drop i).set i (iota (k + sumL (rows.take i)) (rows.getD i []).length) = iotaR k (rows.take (i + 1)) ++ rows.drop (i + 1) := by
  have hl : (iotaR k (rows.take i)).length = i := by rw [iotaR_length]; simp; omega
  rw [List.set_append, hl, if_neg (by omega), Nat.sub_self, List.drop_eq_getElem_cons h, List.set_cons_zero, iotaR_snoc k rows i h]
  simp
theorem szR_sum : ∀ (rows : List (List Int)) (l : Int), 0 ≤ l → 0 ≤ szR rows l → (sumL rows : Int) ≤ l
  | [], l, h0, _ => by simpa [sumL] using h0
  | r :: rs, l, h0, h => by
    simp only [szR] at h
    by_cases hs : szI r l < 0
    · rw [if_pos hs] at h; omega
    · rw [if_neg hs] at h
      have h1 : 0 ≤ szI r l := by omega
      have h2 : szI r l = l - r.length := by unfold szI at h1 ⊢; split <;> simp_all
      have := szR_sum rs _ h1 h
      simp only [sumL]
      omega
theorem szII_all (rows : List (List Int)) (l : Int) (h0 : 0 ≤ l ∧ l ≤ 1048576) (h : 0 ≤ szII rows l) : rows.length ≤ 1048576 ∧ (∀ r ∈ rows, r.length ≤ 1048576) ∧ sumL rows ≤ 1048576 ∧ szII rows l ≤ 1048576 := by
  obtain ⟨h1, h2⟩ := szII_le rows l h0.1 h
  refine ⟨by omega, fun r hr => by have := h2 r hr; omega, ?_, ?_⟩
  · unfold szII at h
    split at h
    · omega
    · have := szR_sum rows _ (by omega) h; omega
  · unfold szII at h ⊢
    split at h
    · omega
    · rename_i h3
      rw [if_neg h3]
      have := (szR_le rows (l - rows.length) (by omega) h).1
      omega
theorem c_markIntSS (hs : List (Option Nat)) (rows : List (List Int)) (k : Int) (hp : rows.length ≤ 4503599627370496) (hk : 0 ≤ k ∧ k + sumL rows ≤ 4503599627370496) (nn : Bool) :
    FunO B 14 [.own 0 0, .int .i64 k] (.mat hs rows 0 nn) (fun rs o => rs = [.int .i64 (k + sumL rows)] ∧ o = [.mat hs (iotaR k rows) 0 nn]) := by
  refine FunO.walk B_ok (fn := Tryz.f14) (fun vs w => Tryz.call14 vs w) Tryz.func14 rfl (by rw [Tryz.ntmps14]; simp) (fun C hC hP hT hΓ hbt hfn hpin hfin => ?_); have hX := BX; rw [← hΓ, ← hbt.1, ← hbt.2.1, ← hbt.2.2.1] at hX; rw [hT] at hX; rw [Tryz.ntmps14]; simp only [AW7, simprocAttr, hX]
  refine Run.R ?_
  refine Run.R ?_
  refine Run.loopI (X := Nat) (fun i => ⟨19, [(0, true, .v (.own 0 0)), (1, true, .v (.int .i64 (k + sumL (rows.take i)))), (4, true, .v (.int .i64 0)), (5, true, .v (.int .i64 i))], [.mat hs (iotaR k (rows.take i) ++ rows.drop i) 0 nn]⟩) (fun i => i ≤ rows.length) (fun i => rows.length - i) 0 (by simp) ?_ ?_
  · refine Le.sub (by simp [iotaR]) ?_
    simp only [AW7, simprocAttr, hX]; try simp [sumL]
  rintro i hi ih
  have hlen : (iotaR k (rows.take i) ++ rows.drop i).length = rows.length := by simp [iotaR_length]; omega
  have hst := sumL_take rows i
  refine Run.R ?_
  refine Run.nq ?_; refine Run.cW ?_ ?_
  · intro hc2
    have hc2 : i < rows.length := by rw [hlen] at hc2; simpa using hc2
    have hget := mark_get k rows i hc2
    have hsn := sumL_snoc rows i hc2
    have hst2 := sumL_take rows (i + 1)
    refine Run.nq ?_; refine Run.regionW hC (fun K hK => ?_); refine wW ?_
    refine FunM.callRow hP hT (c_markIntS ((iotaR k (rows.take i) ++ rows.drop i).getD i []) (k + sumL (rows.take i)) (by rw [hget]; omega) (by omega) false) 0 0 (i) (by simp only [AW7, simprocAttr]; rfl) ?_ rfl (by simp only [AW7, simprocAttr]) ?_
    · omega
    rintro rs o' obs' ⟨rfl, h⟩
    obtain ⟨rfl, rfl⟩ := List.cons.inj h
    refine ⟨_, rfl, by rw [iota_length], rfl, ?_⟩
    refine hK _ ?_
    clear hK K
    refine Run.nq ?_
    refine Run.RW ?_
    refine Run.le ?_ (ih (i + 1) hc2 (by omega))
    simp only [hget]
    refine Le.sub (by rw [← mark_set k rows i hc2]) ?_
    simp only [AW7, simprocAttr]; try simp [-List.getD_eq_getElem?_getD]; omega
  · intro hc2
    have hc2 : i = rows.length := by rw [hlen] at hc2; simp at hc2; omega
    refine Run.exit rfl ?_; refine Run.nq ?_
    refine Run.R ?_
    subst hc2
    refine Run.retW [4] (by decide) (by rw [hfn]; rfl) (by simp only [AW7, simprocAttr, hX]; rfl) (by simp only [AW7, simprocAttr, hX]) (hfin _ _ _ rfl rfl ⟨rfl, _, _, rfl⟩ ?_)
    simp
theorem c_heldIota (k : Int) (n : Nat) (hn : n ≤ 4503599627370496) (hk : 0 ≤ k ∧ k ≤ 4503599627370496) :
    FunA B 25 [.sl false .int (iota k n), .int .i64 k] (fun rs o => rs = [.int .i64 (k + n)] ∧ o = []) := by
  refine (c_heldIntS (iota k n) k (by rw [iota_length]; exact hn) hk).mono ?_
  rintro rs o ⟨rfl, rfl⟩
  rw [iota_length, if_pos rfl]
  exact ⟨rfl, rfl⟩
end Go.Proofs.YtaghdbbcadhjdaaGreatDoor
namespace Go.Proofs.YtaghdbbcadhjdaaGreatDoor
open Go Go.Aw Go.Cox Go.RowKit
end Go.Proofs.YtaghdbbcadhjdaaGreatDoor
namespace Go.Proofs.YtaghdbbcadhjdaaGreatDoor
open Go Go.Aw
def setP (n : Nat) (s : List Int) : Prop := ∀ i, i < s.length → 0 ≤ s.getD i 0 ∧ s.getD i 0 < n ∧ (0 < i → s.getD (i - 1) 0 < s.getD i 0)
open Classical in
noncomputable def setB (c : List (List Int)) (s : List Int) : Bool := decide (setP c.length s)
theorem setB_iff {c : List (List Int)} {s : List Int} : setB c s = true ↔ setP c.length s := by simp [setB]
theorem setP_mono {n : Nat} {s : List Int} (h : setP n s) : ∀ i j, i < j → j < s.length → s.getD i 0 < s.getD j 0 := by
  intro i j hij
  induction j with
  | zero => omega
  | succ j ih =>
    intro hj
    have h1 := (h (j + 1) hj).2.2 (by omega)
    simp only [Nat.add_sub_cancel] at h1
    by_cases h2 : i = j
    · subst h2; exact h1
    · have := ih (by omega) (by omega); omega
theorem c_impl_isSet (c : List (List Int)) (s : List Int) : FunA B 75 [.sl false (.row false) c, .sl false .int s] (fun rs o => rs = [.bool (setB c s)] ∧ o = []) := by
  refine FunA.walk B_ok (fn := Tryz.f75) (fun vs w => Tryz.call75 vs w) Tryz.func75 rfl (by rw [Tryz.ntmps75]; simp) (fun C hC hP hT hΓ hbt hfn hpin hfin => ?_); have hX := BX; rw [← hΓ, ← hbt.1, ← hbt.2.1, ← hbt.2.2.1] at hX; rw [hT] at hX; rw [Tryz.ntmps75]; simp only [AW7, simprocAttr, hX]
  refine Run.len 0 rfl fun hlenc => ?_
  refine Run.len 1 rfl fun hlens => ?_
  refine Run.R ?_
  refine Run.R ?_
  refine Run.R ?_
  refine Run.loopI (X := Nat) (fun i => ⟨25, [(0, true, .v (.sl false (.row false) c)), (4, true, .v (.bool false)), (5, true, .v (.int .i64 (if i = 0 then -1 else s.getD (i - 1) 0))), (8, true, .v (.sl false .int s)), (9, true, .v (.int .i64 s.length)), (10, true, .v (.int .i64 i))], []⟩) (fun i => i ≤ s.length ∧ ∀ k, k < i → 0 ≤ s.getD k 0 ∧ s.getD k 0 < c.length ∧ (0 < k → s.getD (k - 1) 0 < s.getD k 0)) (fun i => s.length - i) 0 ⟨Nat.zero_le _, by omega⟩ ?_ ?_
  · exact Le.sub (by simp only [AW7, simprocAttr]) (by simp only [AW7, simprocAttr]; try simp)
  rintro i ⟨hi, hset⟩ ih
  refine Run.R ?_
  refine Run.nq ?_; refine Run.cW ?_ ?_
  · intro hc
    have hc : i < s.length := by simpa using hc
    refine Run.R ?_
    refine Run.R ?_
    refine Run.keep [0, 4, 5, 7, 8, 9, 10, 22] ?_; simp only [AK, Nat.reduceBEq]
    have key : (bif decide (s.getD i 0 ≤ if i = 0 then -1 else s.getD (i - 1) 0) then true else decide ((c.length : Int) ≤ s.getD i 0)) = true ↔ ¬ (0 ≤ s.getD i 0 ∧ s.getD i 0 < c.length ∧ (0 < i → s.getD (i - 1) 0 < s.getD i 0)) := by
      by_cases h0 : i = 0
      · subst h0
        by_cases h1 : s.getD 0 0 ≤ -1
        · simp only [if_true, h1, decide_true, cond_true, true_iff]; omega
        · simp only [if_true, h1, decide_false, cond_false, decide_eq_true_eq]; omega
      · have hge : 0 ≤ s.getD (i - 1) 0 := (hset (i - 1) (by omega)).1
        simp only [h0, if_false]
        by_cases h1 : s.getD i 0 ≤ s.getD (i - 1) 0
        · simp only [h1, decide_true, cond_true, true_iff]; omega
        · simp only [h1, decide_false, cond_false, decide_eq_true_eq]; omega
    refine Run.nq ?_; refine Run.cW ?_ ?_
    · intro hb
      refine Run.R ?_
      refine Run.rW [4] (hfin _ _ rfl rfl ?_)
      refine ⟨?_, rfl⟩
      have : setB c s = false := by
        cases h : setB c s with
        | false => rfl
        | true => exact absurd (setB_iff.1 h i hc) (key.1 hb)
      rw [this]
    · intro hb
      have hb : 0 ≤ s.getD i 0 ∧ s.getD i 0 < c.length ∧ (0 < i → s.getD (i - 1) 0 < s.getD i 0) := by
        refine Classical.byContradiction fun h => ?_
        have := key.2 h
        rw [this] at hb
        cases hb
      refine Run.RW ?_
      refine Run.RW ?_
      refine Run.le ?_ (ih (i + 1) ⟨hc, fun k hk => ?_⟩ (by omega))
      · refine Le.sub rfl ?_
        simp only [AW7, simprocAttr]; try simp
      · rcases Nat.lt_succ_iff_lt_or_eq.1 hk with h | rfl
        · exact hset k h
        · exact hb
  · intro hc
    have hc : i = s.length := by simp at hc; omega
    subst hc
    refine Run.exit rfl ?_; refine Run.nq ?_
    refine Run.R ?_
    refine Run.rW [4] (hfin _ _ rfl rfl ?_)
    refine ⟨?_, rfl⟩
    rw [setB_iff.2 hset]
noncomputable def isSetB (c : List (List Int)) (s : List Int) : Bool := isC c && setB c s
theorem c_impl_IsSet (c : List (List Int)) (s : List Int) (hc : c.length ≤ 1048576) : FunA B 43 [.sl false (.row false) c, .sl false .int s] (fun rs o => rs = [.bool (isSetB c s)] ∧ o = []) := by
  refine FunA.walk B_ok (fn := Tryz.f43) (fun vs w => Tryz.call43 vs w) Tryz.func43 rfl (by rw [Tryz.ntmps43]; simp) (fun C hC hP hT hΓ hbt hfn hpin hfin => ?_); have hX := BX; rw [← hΓ, ← hbt.1, ← hbt.2.1, ← hbt.2.2.1] at hX; rw [hT] at hX; rw [Tryz.ntmps43]; simp only [AW7, simprocAttr, hX]
  refine Run.R ?_
  refine Run.nq ?_; refine Run.regionW hC (fun K hK => ?_); refine wW ?_
  refine FunA.cW hP hT (c_impl_IsCartan c) ?_
  rintro rs o ⟨rfl, rfl⟩
  refine wW ?_
  refine .inl (FunA.callG hP hT (c_impl_isSet c s) (fun _ => rfl) (fun _ => by simp only [AW7, simprocAttr]) ?_)
  refine wW ?_
  refine wE ?_; clear hK K
  refine Run.rW [4] (hfin _ _ rfl rfl ?_)
  refine ⟨?_, rfl⟩
  unfold isSetB
  cases isC c <;> rfl
theorem c_spec_l3Set (c : List (List Int)) (s : List Int) (hc : c.length ≤ 1048576) : FunA B 39 [.sl false (.row false) c, .sl false .int s] (fun rs o => rs = [.bool (isSetB c s)] ∧ o = []) := by
  refine FunA.walk B_ok (fn := Tryz.f39) (fun vs w => Tryz.call39 vs w) Tryz.func39 rfl (by rw [Tryz.ntmps39]; simp) (fun C hC hP hT hΓ hbt hfn hpin hfin => ?_); have hX := BX; rw [← hΓ, ← hbt.1, ← hbt.2.1, ← hbt.2.2.1] at hX; rw [hT] at hX; rw [Tryz.ntmps39]; simp only [AW7, simprocAttr, hX]
  refine Run.len 1 rfl fun hlens => ?_
  refine Run.R ?_
  refine Run.R ?_
  refine Run.loopI (X := Nat) (fun i => ⟨39, [(0, true, .v (.sl false (.row false) c)), (1, true, .v (.sl false .int s)), (4, true, .v (.bool false)), (5, true, .v (.int .i64 i))], []⟩) (fun i => i ≤ s.length ∧ ∀ k, k < i → 0 ≤ s.getD k 0 ∧ s.getD k 0 < c.length ∧ (0 < k → s.getD (k - 1) 0 < s.getD k 0)) (fun i => s.length - i) 0 ⟨Nat.zero_le _, by omega⟩ ?_ ?_
  · exact Le.sub (by simp only [AW7, simprocAttr]) (by simp only [AW7, simprocAttr]; try simp)
  rintro i ⟨hi, hset⟩ ih
  refine Run.R ?_
  refine Run.nq ?_; refine Run.cW ?_ ?_
  · intro hc
    have hc : i < s.length := by simpa using hc
    refine Run.keep [0, 1, 4, 5] ?_; simp only [AK, Nat.reduceBEq]
    refine Run.nq ?_
    refine Run.regionD hC true [0,1,2,3,4,5,6,7,8,9,10,11,12,13,14,15,16,17,18,19,20,21,22,23,24] (by kernel_rfl) (fun K hK => ?_)
    simp (disch := omega) only [wrap_id, AW7, simprocAttr, hX]
    (repeat (with_reducible refine And.intro ?_ ?_); exact vc0)
    refine FunA.callD hP hT (c_spec_l1In (s.getD i 0) 0 ((c.length : Int) - 1)) (by simp only [AW7, simprocAttr]) ?_
    rintro rs o ⟨rfl, rfl⟩
    refine wWW ?_
    refine wE ?_; clear hK K
    refine Run.keep [0, 1, 4, 5, 36] ?_; simp only [AK, Nat.reduceBEq]
    have key : (bif !inB (s.getD i 0) 0 ((c.length : Int) - 1) then true else bif decide (0 < (i : Int)) then decide (s.getD i 0 ≤ s.getD ((i : Int) - 1).toNat 0) else false) = true ↔ ¬ (0 ≤ s.getD i 0 ∧ s.getD i 0 < c.length ∧ (0 < i → s.getD (i - 1) 0 < s.getD i 0)) := by
      have e : ((i : Int) - 1).toNat = i - 1 := by omega
      rw [e]
      cases hin : inB (s.getD i 0) 0 ((c.length : Int) - 1) with
      | false =>
        have : ¬ (0 ≤ s.getD i 0 ∧ s.getD i 0 ≤ (c.length : Int) - 1) := fun h => by rw [inB_iff.2 h] at hin; cases hin
        simp only [Bool.not_false, cond_true, true_iff]
        omega
      | true =>
        have := inB_iff.1 hin
        simp only [Bool.not_true, cond_false]
        by_cases h0 : 0 < i
        · have h0' : (0 : Int) < i := by omega
          simp only [h0', decide_true, cond_true, decide_eq_true_eq]
          omega
        · have h0' : ¬ (0 : Int) < i := by omega
          simp only [h0', decide_false, cond_false]
          simp only [Bool.false_eq_true, false_iff]
          omega
    refine Run.nq ?_; refine Run.cW ?_ ?_
    · intro hb
      refine Run.R ?_
      refine Run.rW [4] (hfin _ _ rfl rfl ?_)
      refine ⟨?_, rfl⟩
      have : setB c s = false := by
        cases h : setB c s with
        | false => rfl
        | true => exact absurd (setB_iff.1 h i hc) (key.1 hb)
      simp [isSetB, this]
    · intro hb
      have hb : 0 ≤ s.getD i 0 ∧ s.getD i 0 < c.length ∧ (0 < i → s.getD (i - 1) 0 < s.getD i 0) := by
        refine Classical.byContradiction fun h => ?_
        have := key.2 h
        rw [this] at hb
        cases hb
      refine Run.RW ?_
      refine Run.le ?_ (ih (i + 1) ⟨hc, fun k hk => ?_⟩ (by omega))
      · exact Le.sub (by simp only [AW7, simprocAttr]) (by simp only [AW7, simprocAttr, Option.some.injEq, Prod.mk.injEq, Sl.v.injEq, AV.int.injEq, AV.own.injEq, AV.bool.injEq]; try (repeat' apply And.intro); all_goals omega)
      · rcases Nat.lt_succ_iff_lt_or_eq.1 hk with h | rfl
        · exact hset k h
        · exact hb
  · intro hc
    have hc : i = s.length := by simp at hc; omega
    subst hc
    refine Run.exit rfl ?_; refine Run.nq ?_
    refine Run.nq ?_; refine Run.regionW hC (fun K hK => ?_); refine wW ?_
    refine FunA.cW hP hT (c_spec_IsCartan c) ?_
    rintro rs o ⟨rfl, rfl⟩
    refine wW ?_
    refine wE ?_; clear hK K
    refine Run.rW [4] (hfin _ _ rfl rfl ?_)
    refine ⟨?_, rfl⟩
    have : setB c s = true := setB_iff.2 hset
    simp [isSetB, this]
end Go.Proofs.YtaghdbbcadhjdaaGreatDoor
namespace Go.Proofs.YtaghdbbcadhjdaaGreatDoor
open Go Go.Aw Go.Cox
theorem set_len {c : List (List Int)} {s : List Int} (h : setP c.length s) : s.length ≤ c.length := by
  have key : ∀ i, i < s.length → (i : Int) ≤ s.getD i 0 := by
    intro i
    induction i with
    | zero => intro h0; exact (h 0 h0).1
    | succ i ih =>
      intro h1
      have := ih (by omega)
      have := (h (i + 1) h1).2.2 (by omega)
      rw [Nat.add_sub_cancel] at this
      omega
  by_cases h0 : s.length = 0
  · omega
  · have := key (s.length - 1) (by omega)
    have := (h (s.length - 1) (by omega)).2.1
    omega
theorem set_letters {n : Nat} {s : List Int} (h : setP n s) : letters n s := letters_getD.2 fun i hi => ⟨(h i hi).1, (h i hi).2.1⟩
theorem c_spec_l3Has (s : List Int) (x : Int) : FunA B 188 [.sl false .int s, .int .i64 x] (fun rs o => rs = [.bool (decide (x ∈ s))] ∧ o = []) := by
  refine FunA.walk B_ok (fn := Tryz.f188) (fun vs w => Tryz.call188 vs w) Tryz.func188 rfl (by rw [Tryz.ntmps188]; simp) (fun C hC hP hT hΓ hbt hfn hpin hfin => ?_); have hX := BX; rw [← hΓ, ← hbt.1, ← hbt.2.1, ← hbt.2.2.1] at hX; rw [hT] at hX; rw [Tryz.ntmps188]; simp only [AW7, simprocAttr, hX]
  refine Run.len 0 rfl fun hlens => ?_
  refine Run.R ?_
  refine Run.R ?_
  refine Run.loopI (X := Nat) (fun i => ⟨18, [(0, true, .v (.sl false .int s)), (1, true, .v (.int .i64 x)), (4, true, .v (.bool false)), (5, true, .v (.int .i64 i))], []⟩) (fun i => i ≤ s.length ∧ x ∉ s.take i) (fun i => s.length - i) 0 ⟨Nat.zero_le _, by simp⟩ ?_ ?_
  · exact Le.sub (by simp only [AW7, simprocAttr]) (by simp only [AW7, simprocAttr]; try simp)
  rintro i ⟨hi, hf⟩ ih
  refine Run.R ?_
  refine Run.nq ?_; refine Run.cW ?_ ?_
  · intro h
    have h : i < s.length := by simpa using h
    refine Run.R ?_
    refine Run.nq ?_; refine Run.cW ?_ ?_
    · intro hx
      have hx : s.getD i 0 = x := by simpa using hx
      refine Run.R ?_
      refine Run.rW [4] (hfin _ _ rfl rfl ?_)
      refine ⟨?_, rfl⟩
      have : x ∈ s := by rw [← hx]; exact getD_mem h
      simp [this]
    · intro hx
      have hx : ¬ s.getD i 0 = x := by simpa using hx
      refine Run.RW ?_
      refine Run.le ?_ (ih (i + 1) ⟨h, ?_⟩ (by omega))
      · exact Le.sub (by simp only [AW7, simprocAttr]) (by simp only [AW7, simprocAttr, Option.some.injEq, Prod.mk.injEq, Sl.v.injEq, AV.int.injEq, AV.own.injEq, AV.bool.injEq]; try (repeat' apply And.intro); all_goals omega)
      · rw [← take_snoc 0 s i h]
        simp only [List.mem_append, List.mem_singleton, not_or]
        exact ⟨hf, fun k => hx k.symm⟩
  · intro h
    have h : i = s.length := by simp at h; omega
    subst h
    rw [List.take_length] at hf
    refine Run.exit rfl ?_; refine Run.nq ?_
    refine Run.R ?_
    refine Run.rW [4] (hfin _ _ rfl rfl ?_)
    simp [hf]
end Go.Proofs.YtaghdbbcadhjdaaGreatDoor
namespace Go.Proofs.YtaghdbbcadhjdaaGreatDoor
open Go Go.Aw Go.Cox
theorem Run.join {C : Ctx} {i j : Item} {k : List Item} {σ : St} (σ' : St) (h1 : Run C k σ') (h2 : Run C k σ' → Run C (i :: j :: k) σ) : Run C (i :: j :: k) σ := h2 h1
theorem firstIn_at (v : List Int) : ∀ (s : List Int) (i : Nat), i < s.length → (∀ j, j < i → 0 ≤ v.getD (s.getD j 0).toNat 0) → v.getD (s.getD i 0).toNat 0 < 0 → firstIn v s = s.getD i 0
  | [], i, h, _, _ => by simp at h
  | x :: s, 0, _, _, h => by
    simp only [List.getD_cons_zero] at h
    simp only [firstIn, List.getD_cons_zero]
    rw [if_pos h]
  | x :: s, i + 1, hi, hp, h => by
    have h0 := hp 0 (by omega)
    simp only [List.getD_cons_zero] at h0
    simp only [List.getD_cons_succ] at h ⊢
    simp only [firstIn]
    rw [if_neg (by omega)]
    exact firstIn_at v s i (by simpa using hi) (fun j hj => by have := hp (j + 1) (by omega); simpa only [List.getD_cons_succ] using this) h
theorem firstIn_none (v : List Int) : ∀ (s : List Int), (∀ j, j < s.length → 0 ≤ v.getD (s.getD j 0).toNat 0) → firstIn v s = -1
  | [], _ => rfl
  | x :: s, hp => by
    have h0 := hp 0 (by simp)
    simp only [List.getD_cons_zero] at h0
    simp only [firstIn]
    rw [if_neg (by omega)]
    exact firstIn_none v s (fun j hj => by have := hp (j + 1) (by simpa using hj); simpa only [List.getD_cons_succ] using this)
theorem lp_stop {c : List (List Int)} {s v : List Int} (h : firstIn v s < 0) (f : Nat) : lpL c s f v = ([], v) := by
  cases f with
  | zero => rfl
  | succ f => simp only [lpL]; rw [if_pos h]
theorem lp_step {c : List (List Int)} {s v : List Int} (h : ¬ firstIn v s < 0) (f : Nat) : lpL c s (f + 1) v = (firstIn v s :: (lpL c s f (reflL c (firstIn v s) v)).1, (lpL c s f (reflL c (firstIn v s) v)).2) := by
  simp only [lpL]; rw [if_neg h]
structure LP (c : List (List Int)) (s v0 : List Int) (L : Nat) (a v : List Int) : Prop where
  far : Far c (L - a.length) v
  le : a.length ≤ L
  let_ : letters c.length a
  eq : lpL c s 31 v0 = (a ++ (lpL c s (31 - a.length) v).1, (lpL c s (31 - a.length) v).2)
theorem LP.start {c : List (List Int)} {s v0 : List Int} {L : Nat} (h : Far c L v0) : LP c s v0 L [] v0 := ⟨h, Nat.zero_le _, letters_nil _, rfl⟩
theorem LP.stop {c : List (List Int)} {s v0 a v : List Int} {L : Nat} (h : LP c s v0 L a v) (k : firstIn v s < 0) : lpL c s 31 v0 = (a, v) := by
  rw [h.eq, lp_stop k]; simp
theorem LP.step {c : List (List Int)} (hc : CartanP c) {s v0 a v : List Int} {L : Nat} (hs : letters c.length s) (hL : L ≤ 31) (h : LP c s v0 L a v) (k : ¬ firstIn v s < 0) :
    LP c s v0 L (a ++ [firstIn v s]) (reflL c (firstIn v s) v) ∧ a.length < L ∧ (0 ≤ firstIn v s ∧ firstIn v s < c.length) := by
  rcases firstIn_spec v s hs with ⟨h1, _⟩ | ⟨h1, h2, _, h4⟩
  · omega
  · obtain ⟨M, m1, m2⟩ := h.far.down hc ⟨h1, h2⟩ h4
    have hle := h.le
    refine ⟨⟨?_, by simp; omega, letters_append.2 ⟨h.let_, letters_cons.2 ⟨⟨h1, h2⟩, letters_nil _⟩⟩, ?_⟩, by omega, h1, h2⟩
    · rw [show L - (a ++ [firstIn v s]).length = M by simp; omega]; exact m2
    · rw [h.eq, show 31 - a.length = (31 - (a ++ [firstIn v s]).length) + 1 by simp; omega, lp_step k]
      simp
noncomputable def leftB (c : List (List Int)) (s w : List Int) : Bool := wordB c w && isSetB c s
noncomputable def leftX (c : List (List Int)) (s w : List Int) : List Int := if leftB c s w then redL c (lpL c s 31 (imageL c w)).1 else []
noncomputable def leftY (c : List (List Int)) (s w : List Int) : List Int := if leftB c s w then nfL c 31 (lpL c s 31 (imageL c w)).2 else []
theorem lp_word {c : List (List Int)} (hc : CartanP c) {s w : List Int} (hs : setP c.length s) (hw : letters c.length w) (hl : w.length ≤ 31) :
    letters c.length (lpL c s 31 (imageL c w)).1 ∧ (lpL c s 31 (imageL c w)).1.length + (nfL c 31 (lpL c s 31 (imageL c w)).2).length ≤ w.length ∧
    Red c (nfL c 31 (lpL c s 31 (imageL c w)).2) ∧ imageL c (nfL c 31 (lpL c s 31 (imageL c w)).2) = (lpL c s 31 (imageL c w)).2 := by
  obtain ⟨L, h1, h2, h3⟩ := Far.image hc hw
  obtain ⟨k1, k2, M, k3, k4, k5⟩ := lpL_far hc (set_letters hs) 31 L h3 (by omega)
  obtain ⟨m1, m2, m3⟩ := nfL_far hc 31 M k4 (by omega)
  exact ⟨k1, by omega, ⟨m2, by rw [m1, m3]; exact k4⟩, m3⟩
theorem leftY_le (c : List (List Int)) (s w : List Int) : (leftY c s w).length ≤ 15 := by
  unfold leftY
  split
  · rename_i h
    simp only [leftB, Bool.and_eq_true] at h
    obtain ⟨hc, h2, h3⟩ := wordB_iff.1 h.1
    have hs : setP c.length s := by have := h.2; unfold isSetB at this; simp only [Bool.and_eq_true] at this; exact setB_iff.1 this.2
    obtain ⟨k1, k2, _⟩ := lp_word hc hs h3 (by omega)
    omega
  · simp
theorem nf_next {c : List (List Int)} (hc : CartanP c) {i : Int} {v : List Int} {M : Nat} (hv : Far c M v) (hM : M ≤ 31) (hi : 0 ≤ i ∧ i < c.length) :
    redL c (i :: nfL c 31 v) = nfL c 31 (reflL c i v) ∧ letters c.length (i :: nfL c 31 v) ∧ (i :: nfL c 31 v).length = M + 1 := by
  obtain ⟨k1, k2, k3⟩ := nfL_far hc 31 M hv hM
  refine ⟨?_, letters_cons.2 ⟨hi, k2⟩, by simp [k1]⟩
  show nfL c 31 (reflL c i (imageL c (nfL c 31 v))) = _
  rw [k3]
theorem c_spec_LeftParts (c : List (List Int)) (s w : List Int) (hcl : c.length ≤ 1048576) :
    FunA B 40 [.sl false (.row false) c, .sl false .int s, .sl false .int w] (fun rs o => rs = [.own 0 0, .own 1 0, .bool (leftB c s w)] ∧ o = [.arr .int (leftX c s w) 0 true, .arr .int (leftY c s w) 0 true]) := by
  refine FunA.walk B_ok (fn := Tryz.f40) (fun vs w => Tryz.call40 vs w) Tryz.func40 rfl (by rw [Tryz.ntmps40]; simp) (fun C hC hP hT hΓ hbt hfn hpin hfin => ?_); have hX := BX; rw [← hΓ, ← hbt.1, ← hbt.2.1, ← hbt.2.2.1] at hX; rw [hT] at hX; rw [Tryz.ntmps40]; simp only [AW7, simprocAttr, hX]
  refine Run.R ?_
  refine Run.nq ?_; refine Run.regionW hC (fun K hK => ?_); refine wW ?_
  refine FunA.cW hP hT (c_spec_NormalForm c w hcl) ?_
  rintro rs o ⟨rfl, rfl⟩
  refine wW ?_
  refine wE ?_; clear hK K
  refine Run.nq ?_; refine Run.regionW hC (fun K hK => ?_); refine wW ?_
  refine .inl (FunA.callG hP hT (c_spec_l3Set c s hcl) (fun _ => rfl) (fun _ => by simp only [AW7, simprocAttr]) ?_)
  refine wW ?_
  refine wE ?_; clear hK K
  refine Run.nq ?_; refine Run.cW ?_ ?_
  · intro h
    have h : leftB c s w = false := by
      revert h
      cases hw : wordB c w <;> cases hi : isSetB c s <;> simp [leftB, hw, hi]
    refine Run.R ?_
    refine Run.le (Le.re (obs' := [.arr .int [] 0 true, .arr .int [] 0 true]) hpin [1, 2] [(6, true, .own 0 0), (7, true, .own 1 0), (8, true, .bool false)] rfl (by simp [leOs, leO_arr, oAt]) (by refine ⟨⟨_, rfl, ?_⟩, ⟨_, rfl, ?_⟩, ⟨_, rfl, ?_⟩, trivial⟩ <;> simp [leAV, oAt, genO])) ?_; simp only [frV_cons, frV_nil]
    refine Run.rW [6, 7, 8] (hfin _ _ rfl rfl ?_)
    simp [leftX, leftY, h]
  · intro h
    have hw : wordB c w = true := by revert h; cases hw : wordB c w <;> simp
    have hi : isSetB c s = true := by revert h; cases hi : isSetB c s <;> simp [hw]
    have hb : leftB c s w = true := by simp [leftB, hw, hi]
    obtain ⟨hc, h2, h3⟩ := wordB_iff.1 hw
    have hs : setP c.length s := by unfold isSetB at hi; simp only [Bool.and_eq_true] at hi; exact setB_iff.1 hi.2
    have hset := set_letters hs
    have hsl := set_len hs
    have hn := hc.2.1
    obtain ⟨L, l1, l2, l3⟩ := Far.image hc h3
    have e1 : nfW c w = nfL c 31 (imageL c w) := by unfold nfW; rw [if_pos hw]; rfl
    rw [e1]
    refine Run.R ?_
    refine Run.R ?_
    refine Run.keep [0, 1, 6, 7, 8, 9, 11, 12] ?_; simp only [AK, Nat.reduceBEq]
    refine Run.loopI (X := List Int × List Int × Nat) (fun x => ⟨79, [(0, true, .v (.sl false (.row false) c)), (1, true, .v (.sl false .int s)), (6, true, .v .nils), (7, true, .v .nils), (8, true, .v (.bool false)), (9, true, .v (.own 0 0)), (11, true, .v (.own 1 x.2.2)), (12, true, .v (.int .i64 x.1.length))], [.arr .int (nfL c 31 x.2.1) 0 true, .arr .int x.1 x.2.2 true]⟩) (fun x => LP c s (imageL c w) L x.1 x.2.1) (fun x => L - x.1.length) ([], imageL c w, 0) (LP.start l3) ?_ ?_
    · exact Le.sub (by rfl) (by simp only [AW7, simprocAttr, hX]; try simp)
    rintro ⟨a, v, g⟩ hLP ih
    simp only [] at hLP ⊢
    have hvl : v.length = c.length := hLP.far.1
    have hal := hLP.le
    obtain ⟨q1, q2, q3⟩ := nfL_far hc 31 (L - a.length) hLP.far (by omega)
    refine Run.R ?_
    refine Run.nq ?_; refine Run.cW ?_ ?_
    · intro h
      refine Run.R ?_
      refine Run.nq ?_; refine Run.regionW hC (fun K hK => ?_); refine wW ?_
      refine FunA.cW hP hT (c_spec_l8Image c (nfL c 31 v) hc q2 (by omega)) ?_
      rintro rs o ⟨rfl, rfl⟩
      refine wW ?_
      refine wE ?_; clear hK K
      rw [q3]
      refine Run.keep [0, 1, 6, 7, 8, 9, 11, 12, 13, 14] ?_; simp only [AK, Nat.reduceBEq]
      refine Run.loopI (X := Nat) (fun i => ⟨79, [(0, true, .v (.sl false (.row false) c)), (1, true, .v (.sl false .int s)), (6, true, .v .nils), (7, true, .v .nils), (8, true, .v (.bool false)), (9, true, .v (.own 0 0)), (11, true, .v (.own 1 g)), (12, true, .v (.int .i64 a.length)), (13, true, .v (.int .i64 i)), (14, true, .v (.own 2 0))], [.arr .int (nfL c 31 v) 0 true, .arr .int a g true, .arr .int v 0 true]⟩) (fun i => i ≤ s.length ∧ ∀ j, j < i → 0 ≤ v.getD (s.getD j 0).toNat 0) (fun i => s.length - i) 0 ⟨Nat.zero_le _, by omega⟩ ?_ ?_
      · exact Le.sub (by rfl) (by simp only [AW7, simprocAttr, hX]; try simp)
      rintro i ⟨hi2, hp⟩ ihs
      have hlet : i < s.length → 0 ≤ s.getD i 0 ∧ s.getD i 0 < c.length := fun h => letters_getD.1 hset i h
      refine Run.R ?_
      refine Run.keep [0, 1, 6, 7, 8, 9, 11, 12, 13, 14, 52] ?_; simp only [AK, Nat.reduceBEq]
      refine Run.nq ?_; refine Run.cW ?_ ?_
      · intro h4
        have h4 : i < s.length ∧ 0 < v.getD (s.getD i 0).toNat 0 := by
          by_cases hq : i < s.length
          · have hq' : (i : Int) < s.length := by omega
            simp only [hq', decide_true, cond_true, decide_eq_true_eq] at h4
            exact ⟨hq, h4⟩
          · have hq' : ¬ (i : Int) < s.length := by omega
            simp [hq'] at h4
        refine Run.RW ?_
        refine Run.le ?_ (ihs (i + 1) ⟨h4.1, fun j hj => ?_⟩ (by omega))
        · exact Le.sub (by simp only [AW7, simprocAttr]) (by simp only [AW7, simprocAttr, Option.some.injEq, Prod.mk.injEq, Sl.v.injEq, AV.int.injEq, AV.own.injEq, AV.bool.injEq]; try (repeat' apply And.intro); all_goals omega)
        · rcases Nat.lt_succ_iff_lt_or_eq.1 hj with h | rfl
          · exact hp j h
          · omega
      · intro h4
        refine Run.exit rfl ?_; refine Run.nq ?_
        refine Run.R ?_
        refine Run.keep [0, 1, 6, 7, 8, 9, 11, 12, 13, 14, 58] ?_; simp only [AK, Nat.reduceBEq]
        refine Run.nq ?_; refine Run.cW ?_ ?_
        · intro h5
          have h5 : i = s.length := by simp at h5; omega
          subst h5
          have hst := hLP.stop (by rw [firstIn_none v s hp]; decide)
          refine Run.exit rfl ?_; refine Run.nq ?_
          refine Run.nq ?_; refine Run.regionW hC (fun K hK => ?_); refine wW ?_
          refine FunA.cW hP hT (c_spec_l8Normal c a hc hLP.let_ (by omega)) ?_
          rintro rs o ⟨rfl, rfl⟩
          refine wW ?_
          refine wE ?_; clear hK K
          refine Run.le (Le.re (obs' := [.arr .int (redL c a) 0 true, .arr .int (nfL c 31 v) 0 true]) hpin [3, 0] [(6, true, .own 0 0), (7, true, .own 1 0), (8, true, .bool true)] rfl (by simp [leOs, leO_arr, oAt]) (by refine ⟨⟨_, rfl, ?_⟩, ⟨_, rfl, ?_⟩, ⟨_, rfl, ?_⟩, trivial⟩ <;> simp [leAV, oAt, genO])) ?_; simp only [frV_cons, frV_nil]
          refine Run.rW [6, 7, 8] (hfin _ _ rfl rfl ?_)
          simp [leftX, leftY, hb, hst]
        · intro h5
          have h5 : i < s.length := by
            have : ¬ i = s.length := by intro hk; subst hk; simp at h5
            omega
          have hlt := hlet h5
          have hnp : v.getD (s.getD i 0).toNat 0 < 0 := by
            have hz := hLP.far.nz hc (s.getD i 0).toNat (by omega)
            have hq' : (i : Int) < s.length := by omega
            simp only [hq', decide_true, cond_true, decide_eq_false_iff_not] at h4
            omega
          have hfi := firstIn_at v s i h5 hp hnp
          obtain ⟨hLP2, hlt2, _⟩ := hLP.step hc hset (by omega) (by rw [hfi]; omega)
          rw [hfi] at hLP2
          obtain ⟨n1, n2, n3⟩ := nf_next hc hLP.far (by omega) hlt
          refine Run.R ?_
          refine Run.nq ?_; refine Run.regionW hC (fun K hK => ?_); refine wW ?_
          refine FunA.cW hP hT (c_spec_ConcatWords [s.getD i 0] (nfL c 31 v) (by simp) (by omega)) ?_
          rintro rs o ⟨rfl, rfl⟩
          refine wW ?_
          rw [show ([s.getD i 0] ++ nfL c 31 v) = s.getD i 0 :: nfL c 31 v from rfl]
          refine FunA.cW hP hT (c_spec_l8Normal c (s.getD i 0 :: nfL c 31 v) hc n2 (by omega)) ?_
          rintro rs o ⟨rfl, rfl⟩
          rw [n1]
          refine wW ?_
          refine wE ?_; clear hK K
          refine Run.le (Le.re (obs' := [.arr .int (nfL c 31 (reflL c (s.getD i 0) v)) 0 true, .arr .int (a ++ [s.getD i 0]) (g + 1) true]) hpin [6, 1] [(0, true, .sl false (.row false) c), (1, true, .sl false .int s), (6, true, .nils), (7, true, .nils), (8, true, .bool false), (9, true, .own 0 0), (11, true, .own 1 (g + 1)), (12, true, .int .i64 a.length)] rfl (by simp [leOs, leO_arr, oAt]) (by refine ⟨⟨_, rfl, ?_⟩, ⟨_, rfl, ?_⟩, ⟨_, rfl, ?_⟩, ⟨_, rfl, ?_⟩, ⟨_, rfl, ?_⟩, ⟨_, rfl, ?_⟩, ⟨_, rfl, ?_⟩, ⟨_, rfl, ?_⟩, trivial⟩ <;> simp [leAV, oAt, genO])) ?_; simp only [frV_cons, frV_nil]
          refine Run.RW ?_
          refine Run.le ?_ (ih (a ++ [s.getD i 0], reflL c (s.getD i 0) v, g + 1) hLP2 (by simp; omega))
          exact Le.sub (by rfl) (by simp only [AW7, simprocAttr]; try simp)
    · intro h
      simp at h
      omega
end Go.Proofs.YtaghdbbcadhjdaaGreatDoor
namespace Go.Proofs.YtaghdbbcadhjdaaGreatDoor
open Go Go.Aw Go.Cox
end Go.Proofs.YtaghdbbcadhjdaaGreatDoor
namespace Go.Proofs.YtaghdbbcadhjdaaGreatDoor
open Go Go.Aw Go.Cox
def Pre (c : List (List Int)) (x z : List Int) : Prop := letters c.length z ∧ redL c z = z ∧ ∃ v, letters c.length v ∧ imageL c (z ++ v) = imageL c x ∧ z.length + v.length = x.length
def Nf (c : List (List Int)) (x : List Int) : Prop := letters c.length x ∧ redL c x = x ∧ x.length ≤ 30
theorem nf_idem {c : List (List Int)} (hc : CartanP c) {w : List Int} (hw : letters c.length w) (hl : w.length ≤ 31) : redL c (redL c w) = redL c w := red_eq (red_spec hc hw hl).2.2.2.1
theorem Nf.red {c : List (List Int)} (hc : CartanP c) {x : List Int} (h : Nf c x) : Red c x := by
  have := red_Red hc h.1 (by have := h.2.2; omega)
  rwa [h.2.1] at this
theorem Nf.far {c : List (List Int)} (hc : CartanP c) {x : List Int} (h : Nf c x) : Far c x.length (imageL c x) := (h.red hc).2
theorem Nf.short {c : List (List Int)} (hc : CartanP c) {x : List Int} (h : Nf c x) {u : List Int} (hu : letters c.length u) (he : imageL c u = imageL c x) : x.length ≤ u.length := by
  obtain ⟨L, h1, _, h3⟩ := Far.image hc hu
  rw [he] at h3
  have := (h.far hc).uniq hc h3
  omega
theorem Pre.nf {c : List (List Int)} {x z : List Int} (hx : Nf c x) (h : Pre c x z) : Nf c z := by
  obtain ⟨h1, h2, v, h3, h4, h5⟩ := h
  exact ⟨h1, h2, by have := hx.2.2; omega⟩
theorem Pre.refl {c : List (List Int)} {x : List Int} (hx : Nf c x) : Pre c x x := ⟨hx.1, hx.2.1, [], letters_nil _, by rw [List.append_nil], by simp⟩
theorem nf_red {c : List (List Int)} (hc : CartanP c) {u : List Int} (hu : letters c.length u) (hl : u.length ≤ 31) (hr : (redL c u).length ≤ 30) : Nf c (redL c u) :=
  ⟨(red_spec hc hu hl).1, nf_idem hc hu hl, hr⟩
theorem letter1 {n : Nat} {i : Nat} (h : i < n) : letters n [(i : Int)] := letters_cons.2 ⟨by omega, letters_nil _⟩
theorem image_same_app {c : List (List Int)} (hc : CartanP c) {a b : List Int} (ha : letters c.length a) (hb : letters c.length b) (h : imageL c a = imageL c b) (t : List Int) : imageL c (a ++ t) = imageL c (b ++ t) := by
  rw [image_append, image_append]; exact same_elt hc ha hb h (imageL_length c _)
theorem image_two {c : List (List Int)} (hc : CartanP c) (y : List Int) {i : Nat} (hi : i < c.length) (t : List Int) : imageL c (y ++ [(i : Int)] ++ ((i : Int) :: t)) = imageL c (y ++ t) := by
  rw [List.append_assoc, image_append, image_append]
  show actL c y (reflL c i (reflL c i (imageL c t))) = _
  rw [refl2 hc (i := (i : Int)) (by omega) (imageL_length c _)]
  exact (image_append c y t).symm
theorem Pre.down {c : List (List Int)} (hc : CartanP c) {x y : List Int} (hx : Nf c x) (hy : Pre c x y) {i : Nat} (hi : i < c.length) (hlt : (redL c (y ++ [(i : Int)])).length < y.length) : Pre c x (redL c (y ++ [(i : Int)])) := by
  have hny := hy.nf hx
  obtain ⟨h1, h2, v, h3, h4, h5⟩ := hy
  have hl : letters c.length (y ++ [(i : Int)]) := letters_append.2 ⟨h1, letter1 hi⟩
  have hlen : (y ++ [(i : Int)]).length ≤ 31 := by have := hny.2.2; simp; omega
  obtain ⟨a1, a2, a3, a4, a5⟩ := red_spec hc hl hlen
  have hvi : letters c.length ((i : Int) :: v) := letters_cons.2 ⟨by omega, h3⟩
  have him : imageL c (redL c (y ++ [(i : Int)]) ++ ((i : Int) :: v)) = imageL c x := by
    rw [image_same_app hc a1 hl a4, image_two hc y hi, h4]
  have hs := hx.short hc (letters_append.2 ⟨a1, hvi⟩) him
  simp at hs a3
  refine ⟨a1, nf_idem hc hl hlen, (i : Int) :: v, hvi, him, ?_⟩
  simp
  omega
theorem red_of_nil {c : List (List Int)} (hc : CartanP c) : redL c [] = [] := by
  have := (red_spec hc (letters_nil c.length) (by simp)).2.1
  exact List.eq_nil_of_length_eq_zero (by simpa using this)
theorem Pre.nil {c : List (List Int)} (hc : CartanP c) {x : List Int} (hx : Nf c x) : Pre c x [] := ⟨letters_nil _, red_of_nil hc, x, hx.1, rfl, by simp⟩
theorem nodup_le {α : Type} [DecidableEq α] : ∀ {a b : List α}, a.Nodup → (∀ x ∈ a, x ∈ b) → a.length ≤ b.length
  | [], b, _, _ => Nat.zero_le _
  | x :: a, b, hn, h => by
    obtain ⟨h1, h2⟩ := List.nodup_cons.1 hn
    have hx := h x (List.mem_cons_self ..)
    have := nodup_le (a := a) (b := b.erase x) h2 (fun y hy => by
      have hne : y ≠ x := fun e => h1 (e ▸ hy)
      exact (List.mem_erase_of_ne hne).2 (h y (List.mem_cons_of_mem _ hy)))
    rw [List.length_erase_of_mem hx] at this
    have hp : 0 < b.length := List.length_pos_of_mem hx
    simp only [List.length_cons]
    omega
end Go.Proofs.YtaghdbbcadhjdaaGreatDoor
namespace Go.Proofs.YtaghdbbcadhjdaaGreatDoor
open Go Go.Aw Go.Cox
def addN (a : List (List Int)) (v : List Int) : List (List Int) := if v ∈ a then a else a ++ [v]
def nxI (c : List (List Int)) (x : List Int) (a : List (List Int)) (i : Nat) : List (List Int) := if x.getD i 0 < 0 then a else addN a (reflL c i x)
def nxX (c : List (List Int)) (a : List (List Int)) (x : List Int) : List (List Int) := (List.range c.length).foldl (nxI c x) a
def nxS (c : List (List Int)) (sh : List (List Int)) : List (List Int) := sh.foldl (nxX c) []
def shl (c : List (List Int)) : Nat → List (List Int)
  | 0 => [ones c.length]
  | L + 1 => nxS c (shl c L)
theorem addN_mem (a : List (List Int)) (v z : List Int) : z ∈ addN a v ↔ z ∈ a ∨ z = v := by
  unfold addN
  by_cases h : v ∈ a
  · rw [if_pos h]
    constructor
    · exact .inl
    · rintro (h1 | rfl) <;> assumption
  · rw [if_neg h]; simp
theorem addN_nodup {a : List (List Int)} (h : a.Nodup) (v : List Int) : (addN a v).Nodup := by
  unfold addN
  by_cases hv : v ∈ a
  · rw [if_pos hv]; exact h
  · rw [if_neg hv, List.nodup_append]
    exact ⟨h, by simp, fun x hx y hy e => hv (by simp at hy; rw [← hy, ← e]; exact hx)⟩
theorem nxI_mem (c : List (List Int)) (x : List Int) (a : List (List Int)) (i : Nat) (z : List Int) : z ∈ nxI c x a i ↔ z ∈ a ∨ (0 ≤ x.getD i 0 ∧ z = reflL c i x) := by
  unfold nxI
  by_cases h : x.getD i 0 < 0
  · rw [if_pos h]
    constructor
    · exact .inl
    · rintro (h1 | ⟨h1, _⟩)
      · exact h1
      · omega
  · rw [if_neg h, addN_mem]
    constructor
    · rintro (h1 | h1)
      · exact .inl h1
      · exact .inr ⟨by omega, h1⟩
    · rintro (h1 | ⟨_, h1⟩)
      · exact .inl h1
      · exact .inr h1
theorem nxI_fold (c : List (List Int)) (x : List Int) : ∀ (l : List Nat) (a : List (List Int)), (∀ z, z ∈ l.foldl (nxI c x) a ↔ z ∈ a ∨ ∃ i ∈ l, 0 ≤ x.getD i 0 ∧ z = reflL c i x) ∧ (a.Nodup → (l.foldl (nxI c x) a).Nodup)
  | [], a => ⟨fun z => by simp, id⟩
  | i :: l, a => by
    obtain ⟨h1, h2⟩ := nxI_fold c x l (nxI c x a i)
    refine ⟨fun z => ?_, fun hn => h2 ?_⟩
    · rw [List.foldl_cons, h1, nxI_mem]
      constructor
      · rintro ((h | h) | ⟨j, hj, h⟩)
        · exact .inl h
        · exact .inr ⟨i, List.mem_cons_self .., h⟩
        · exact .inr ⟨j, List.mem_cons_of_mem _ hj, h⟩
      · rintro (h | ⟨j, hj, h⟩)
        · exact .inl (.inl h)
        · rcases List.mem_cons.1 hj with rfl | hj
          · exact .inl (.inr h)
          · exact .inr ⟨j, hj, h⟩
    · unfold nxI
      split
      · exact hn
      · exact addN_nodup hn _
theorem nxX_fold (c : List (List Int)) : ∀ (sh a : List (List Int)), (∀ z, z ∈ sh.foldl (nxX c) a ↔ z ∈ a ∨ ∃ x ∈ sh, ∃ i, i < c.length ∧ 0 ≤ x.getD i 0 ∧ z = reflL c i x) ∧ (a.Nodup → (sh.foldl (nxX c) a).Nodup)
  | [], a => ⟨fun z => by simp, id⟩
  | x :: sh, a => by
    obtain ⟨h1, h2⟩ := nxX_fold c sh (nxX c a x)
    obtain ⟨k1, k2⟩ := nxI_fold c x (List.range c.length) a
    refine ⟨fun z => ?_, fun hn => h2 (k2 hn)⟩
    rw [List.foldl_cons, h1, show z ∈ nxX c a x ↔ _ from k1 z]
    constructor
    · rintro ((h | ⟨i, hi, h⟩) | ⟨y, hy, h⟩)
      · exact .inl h
      · exact .inr ⟨x, List.mem_cons_self .., i, List.mem_range.1 hi, h⟩
      · exact .inr ⟨y, List.mem_cons_of_mem _ hy, h⟩
    · rintro (h | ⟨y, hy, i, hi, h⟩)
      · exact .inl (.inl h)
      · rcases List.mem_cons.1 hy with rfl | hy
        · exact .inl (.inr ⟨i, List.mem_range.2 hi, h⟩)
        · exact .inr ⟨y, hy, i, hi, h⟩
theorem far_step {c : List (List Int)} (hc : CartanP c) {L : Nat} {v : List Int} : Far c (L + 1) v ↔ ∃ x, Far c L x ∧ ∃ i, i < c.length ∧ 0 ≤ x.getD i 0 ∧ v = reflL c i x := by
  constructor
  · intro h
    rcases fst_of_far hc h with ⟨_, h2⟩ | ⟨h1, h2, h3, M, h4, h5⟩
    · omega
    · have : M = L := by omega
      subst this
      have hk : (((fstN v).toNat : Nat) : Int) = fstN v := by omega
      refine ⟨_, h5, (fstN v).toNat, by omega, ?_, ?_⟩
      · rw [reflL_get c (fstN v) v (fstN v).toNat (by rw [h.1]; omega), show ent c (fstN v).toNat (fstN v).toNat = 2 from (matA_cartan hc).diag _ (by omega)]
        omega
      · rw [hk, refl2 hc ⟨h1, h2⟩ h.1]
  · rintro ⟨x, hx, i, hi, h0, rfl⟩
    have := hx.nz hc i hi
    exact hx.up hc ⟨by omega, by omega⟩ (by rw [Int.toNat_natCast]; omega)
theorem shl_spec {c : List (List Int)} (hc : CartanP c) : ∀ L, (shl c L).Nodup ∧ ∀ v, v ∈ shl c L ↔ Far c L v
  | 0 => ⟨by simp [shl], fun v => by
      simp only [shl, List.mem_singleton]
      exact ⟨fun h => h ▸ Far.ones c, fun h => h.zero⟩⟩
  | L + 1 => by
    obtain ⟨h1, h2⟩ := shl_spec hc L
    obtain ⟨k1, k2⟩ := nxX_fold c (shl c L) []
    refine ⟨k2 List.nodup_nil, fun v => ?_⟩
    rw [show v ∈ shl c (L + 1) ↔ _ from k1 v, far_step hc]
    constructor
    · rintro (h | ⟨x, hx, h⟩)
      · simp at h
      · exact ⟨x, (h2 x).1 hx, h⟩
    · rintro ⟨x, hx, h⟩
      exact .inr ⟨x, (h2 x).2 hx, h⟩
def wds (c : List (List Int)) (L : Nat) : List (List Int) := (shl c L).map (nfL c 31)
def outS (c : List (List Int)) : Nat → List (List Int)
  | 0 => [[]]
  | L + 1 => outS c L ++ srt (wds c (L + 1))
def allL (c : List (List Int)) : List (List Int) := outS c 25
theorem wds_mem {c : List (List Int)} (hc : CartanP c) {L : Nat} (hL : L ≤ 30) (w : List Int) : w ∈ wds c L ↔ Nf c w ∧ w.length = L := by
  unfold wds
  rw [List.mem_map]
  constructor
  · rintro ⟨v, hv, rfl⟩
    have hf := ((shl_spec hc L).2 v).1 hv
    obtain ⟨n1, n2, n3⟩ := nfL_far hc 31 L hf (by omega)
    exact ⟨⟨n2, by unfold redL; rw [n3], by omega⟩, n1⟩
  · rintro ⟨hn, rfl⟩
    exact ⟨imageL c w, ((shl_spec hc _).2 _).2 (hn.far hc), hn.2.1⟩
theorem wds_nodup {c : List (List Int)} (hc : CartanP c) {L : Nat} (hL : L ≤ 30) : (wds c L).Nodup := by
  unfold wds
  obtain ⟨h1, h2⟩ := shl_spec hc L
  rw [List.nodup_iff_pairwise_ne, List.pairwise_map]
  refine List.Pairwise.imp_of_mem ?_ (List.nodup_iff_pairwise_ne.1 h1)
  intro a b ha hb hne e
  apply hne
  rw [← (nfL_far hc 31 L ((h2 a).1 ha) (by omega)).2.2, ← (nfL_far hc 31 L ((h2 b).1 hb) (by omega)).2.2, e]
theorem outS_mem {c : List (List Int)} (hc : CartanP c) : ∀ {L : Nat}, L ≤ 30 → ∀ w, w ∈ outS c L ↔ Nf c w ∧ w.length ≤ L
  | 0, _, w => by
    simp only [outS, List.mem_singleton]
    constructor
    · rintro rfl
      refine ⟨⟨letters_nil _, ?_, by simp⟩, by simp⟩
      have := red_Red hc (letters_nil _) (w := []) (by simp)
      have h := (red_far hc (Far.ones c) (by omega) (w := []))
      exact List.eq_nil_of_length_eq_zero h.1
    · rintro ⟨_, h⟩
      exact List.eq_nil_of_length_eq_zero (by omega)
  | L + 1, hL, w => by
    simp only [outS, List.mem_append, (srt_spec _).2, outS_mem hc (show L ≤ 30 by omega) w, wds_mem hc hL w]
    constructor
    · rintro (⟨h1, h2⟩ | ⟨h1, h2⟩) <;> exact ⟨h1, by omega⟩
    · rintro ⟨h1, h2⟩
      rcases Nat.lt_or_ge w.length (L + 1) with h | h
      · exact .inl ⟨h1, by omega⟩
      · exact .inr ⟨h1, by omega⟩
theorem cmpW_short {p q : List Int} (h : p.length < q.length) : cmpW p q < 0 := by unfold cmpW; rw [if_pos h]; decide
theorem outS_strict {c : List (List Int)} (hc : CartanP c) : ∀ {L : Nat}, L ≤ 30 → StrictW (outS c L)
  | 0, _ => by unfold StrictW outS; simp
  | L + 1, hL => by
    refine List.pairwise_append.2 ⟨outS_strict hc (by omega), (srt_spec _).1, fun a ha b hb => ?_⟩
    have h1 := (outS_mem hc (by omega) a).1 ha
    have h2 := (wds_mem hc hL b).1 (((srt_spec _).2 b).1 hb)
    exact cmpW_short (by omega)
theorem allL_spec {c : List (List Int)} (hF : FinP c) : StrictW (allL c) ∧ ∀ w, w ∈ allL c ↔ Nf c w := by
  refine ⟨outS_strict hF.1 (by omega), fun w => ?_⟩
  rw [show w ∈ allL c ↔ _ from outS_mem hF.1 (by omega) w]
  refine ⟨fun h => h.1, fun h => ⟨h, ?_⟩⟩
  have := fin_len hF _ (h.far hF.1)
  omega
theorem shl_end {c : List (List Int)} (hF : FinP c) {L : Nat} (hL : 25 ≤ L) : shl c L = [] := by
  cases h : shl c L with
  | nil => rfl
  | cons v l =>
    have := fin_len hF _ (((shl_spec hF.1 L).2 v).1 (by rw [h]; exact List.mem_cons_self ..))
    omega
theorem shl_stop {c : List (List Int)} {L : Nat} (h : shl c L = []) : ∀ k, shl c (L + k) = [] ∧ outS c (L + k) = outS c L
  | 0 => ⟨h, rfl⟩
  | k + 1 => by
    obtain ⟨h1, h2⟩ := shl_stop h k
    have h3 : shl c (L + (k + 1)) = [] := by
      show nxS c (shl c (L + k)) = []
      rw [h1]; rfl
    refine ⟨h3, ?_⟩
    show outS c (L + k) ++ srt (wds c (L + (k + 1))) = _
    rw [wds, h3, h2]
    simp [srt_nil]
theorem shl_all {c : List (List Int)} {L : Nat} (hL : L ≤ 25) (h : shl c L = []) : outS c L = allL c := by
  obtain ⟨k, hk⟩ := Nat.exists_eq_add_of_le hL
  have := (shl_stop h k).2
  unfold allL
  rw [hk, this]
theorem srt_perm {l : List (List Int)} (h : l.Nodup) : (srt l).Perm l := by
  obtain ⟨h1, h2⟩ := srt_spec l
  have hn : (srt l).Nodup := List.Pairwise.imp (fun {a b} h e => by rw [e, cmpW_self] at h; omega) h1
  exact (List.perm_ext_iff_of_nodup hn h).2 h2
theorem outS_len {c : List (List Int)} (hc : CartanP c) {L : Nat} (hL : L + 1 ≤ 30) : (outS c (L + 1)).length = (outS c L).length + (shl c (L + 1)).length := by
  show (outS c L ++ srt (wds c (L + 1))).length = _
  rw [List.length_append, (srt_perm (wds_nodup hc hL)).length_eq]
  simp [wds]
theorem outS_mono {c : List (List Int)} : ∀ (k L : Nat), (outS c L).length ≤ (outS c (L + k)).length
  | 0, _ => Nat.le_refl _
  | k + 1, L => Nat.le_trans (outS_mono k L) (by show _ ≤ (outS c (L + k) ++ _).length; simp)
theorem outS_le {c : List (List Int)} {L : Nat} (hL : L ≤ 25) : (outS c L).length ≤ (allL c).length := by
  obtain ⟨k, hk⟩ := Nat.exists_eq_add_of_le hL
  have := outS_mono (c := c) k L
  rw [← hk] at this
  exact this
theorem far_bd24 {c : List (List Int)} (hF : FinP c) {L : Nat} {v : List Int} (h : Far c L v) : Bd (4 ^ 24) v := by
  obtain ⟨n1, n2, n3⟩ := nfL_far hF.1 31 L h (by have := fin_len hF _ h; omega)
  have := Bd.image hF.1 _ n2
  rw [n3, n1] at this
  exact this.mono (pow4_le (fin_len hF _ h))
end Go.Proofs.YtaghdbbcadhjdaaGreatDoor

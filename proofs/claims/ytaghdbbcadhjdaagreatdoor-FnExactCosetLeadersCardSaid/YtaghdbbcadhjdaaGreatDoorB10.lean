/- Words and images: what the functions of both sides do. -/
import Derived.Test.YtaghdbbcadhjdaaGreatDoorB7
import Derived.Test.YtaghdbbcadhjdaaGreatDoorB8
import Derived.WalkKit
import Derived.Lib.Walk
import Derived.Lib.SliceRun
import Derived.Lib.AppendZeros
set_option linter.unusedVariables false
set_option linter.unusedSimpArgs false
namespace Go.Proofs.YtaghdbbcadhjdaaGreatDoor
open Go Go.Aw Go.Cox
def WordP (c : List (List Int)) (w : List Int) : Prop := CartanP c ∧ w.length ≤ 15 ∧ letters c.length w
open Classical in
noncomputable def wordB (c : List (List Int)) (w : List Int) : Bool := decide (WordP c w)
theorem wordB_iff {c : List (List Int)} {w : List Int} : wordB c w = true ↔ WordP c w := by simp [wordB]
def ptB (c : List (List Int)) (i : Int) : Bool := decide (0 ≤ i ∧ i < c.length)
theorem c_impl_isPoint (c : List (List Int)) (i : Int) : FunA B 120 [.sl false (.row false) c, .int .i64 i] (fun rs o => rs = [.bool (ptB c i)] ∧ o = []) := by
  refine FunA.walk B_ok (fn := Tryz.f120) (fun vs w => Tryz.call120 vs w) Tryz.func120 rfl (by rw [Tryz.ntmps120]; simp) (fun C hC hP hT hΓ hbt hfn hpin hfin => ?_); have hX := BX; rw [← hΓ, ← hbt.1, ← hbt.2.1, ← hbt.2.2.1] at hX; rw [hT] at hX; rw [Tryz.ntmps120]; simp only [AW7, simprocAttr, hX]
  refine Run.R ?_
  refine Run.R ?_
  refine Run.rW [4] (hfin _ _ rfl rfl ?_)
  refine ⟨?_, rfl⟩
  congr 2
  unfold ptB
  by_cases h : 0 ≤ i <;> simp [h]
theorem getD_mem {w : List Int} {i : Nat} (h : i < w.length) : w.getD i 0 ∈ w := by
  rw [show w.getD i 0 = w[i] from by simp [h]]; exact List.getElem_mem h
theorem letters_getD {n : Nat} {w : List Int} : letters n w ↔ ∀ i, i < w.length → 0 ≤ w.getD i 0 ∧ w.getD i 0 < n := by
  constructor
  · intro h i hi; exact h _ (getD_mem hi)
  · intro h x hx
    obtain ⟨i, hi, rfl⟩ := List.getElem_of_mem hx
    have := h i hi
    rwa [show w.getD i 0 = w[i] from by simp [hi]] at this
open Classical in
noncomputable def letB (c : List (List Int)) (w : List Int) : Bool := decide (letters c.length w)
theorem letB_iff {c : List (List Int)} {w : List Int} : letB c w = true ↔ letters c.length w := by simp [letB]
theorem wordB_eq (c : List (List Int)) (w : List Int) : wordB c w = (isC c && decide (w.length ≤ 15) && letB c w) := by
  rw [Bool.eq_iff_iff, wordB_iff]
  simp only [Bool.and_eq_true, isC_iff, decide_eq_true_eq, letB_iff, WordP]
  exact and_assoc.symm
theorem c_spec_IsWord (c : List (List Int)) (w : List Int) (hcl : c.length ≤ 1048576) : FunA B 56 [.sl false (.row false) c, .sl false .int w] (fun rs o => rs = [.bool (wordB c w)] ∧ o = []) := by
  refine FunA.walk B_ok (fn := Tryz.f56) (fun vs w => Tryz.call56 vs w) Tryz.func56 rfl (by rw [Tryz.ntmps56]; simp) (fun C hC hP hT hΓ hbt hfn hpin hfin => ?_); have hX := BX; rw [← hΓ, ← hbt.1, ← hbt.2.1, ← hbt.2.2.1] at hX; rw [hT] at hX; rw [Tryz.ntmps56]; simp only [AW7, simprocAttr, hX]
  refine Run.len 1 rfl fun hlens => ?_
  refine Run.R ?_
  refine Run.R ?_
  refine Run.loopI (X := Nat) (fun i => ⟨28, [(0, true, .v (.sl false (.row false) c)), (1, true, .v (.sl false .int w)), (4, true, .v (.bool false)), (5, true, .v (.int .i64 i))], []⟩) (fun i => i ≤ w.length ∧ ∀ k, k < i → 0 ≤ w.getD k 0 ∧ w.getD k 0 < c.length) (fun i => w.length - i) 0 ⟨Nat.zero_le _, by omega⟩ ?_ ?_
  · exact Le.sub (by simp only [AW7, simprocAttr]) (by simp only [AW7, simprocAttr]; try simp)
  rintro i ⟨hi, hset⟩ ih
  refine Run.R ?_
  refine Run.nq ?_; refine Run.cW ?_ ?_
  · intro hc
    have hc : i < w.length := by simpa using hc
    refine Run.keep [0, 1, 4, 5] ?_; simp only [AK, Nat.reduceBEq]
    refine Run.nq ?_; refine Run.regionW hC (fun K hK => ?_); refine wWW ?_
    refine FunA.cW hP hT (c_spec_l1In (w.getD i 0) 0 ((c.length : Int) - 1)) ?_
    rintro rs o ⟨rfl, rfl⟩
    refine wW ?_
    refine wE ?_; clear hK K
    have key : inB (w.getD i 0) 0 ((c.length : Int) - 1) = true ↔ 0 ≤ w.getD i 0 ∧ w.getD i 0 < c.length := by rw [inB_iff]; omega
    refine Run.nq ?_; refine Run.cW ?_ ?_
    · intro hb
      have hb : ¬ (0 ≤ w.getD i 0 ∧ w.getD i 0 < c.length) := fun h => by rw [key.2 h] at hb; cases hb
      refine Run.R ?_
      refine Run.rW [4] (hfin _ _ rfl rfl ?_)
      refine ⟨?_, rfl⟩
      have : wordB c w = false := by
        cases h : wordB c w with
        | false => rfl
        | true => exact absurd (letters_getD.1 (wordB_iff.1 h).2.2 i hc) hb
      rw [this]
    · intro hb
      have hb : 0 ≤ w.getD i 0 ∧ w.getD i 0 < c.length := by
        refine key.1 ?_
        revert hb
        cases inB (w.getD i 0) 0 ((c.length : Int) - 1) <;> simp
      refine Run.RW ?_
      refine Run.le ?_ (ih (i + 1) ⟨hc, fun k hk => ?_⟩ (by omega))
      · exact Le.sub (by simp only [AW7, simprocAttr]) (by simp only [AW7, simprocAttr, Option.some.injEq, Prod.mk.injEq, Sl.v.injEq, AV.int.injEq, AV.own.injEq, AV.bool.injEq]; try (repeat' apply And.intro); all_goals omega)
      · rcases Nat.lt_succ_iff_lt_or_eq.1 hk with h | rfl
        · exact hset k h
        · exact hb
  · intro hc
    have hc : i = w.length := by simp at hc; omega
    subst hc
    refine Run.exit rfl ?_; refine Run.nq ?_
    refine Run.nq ?_; refine Run.regionW hC (fun K hK => ?_); refine wW ?_
    refine FunA.cW hP hT (c_spec_IsCartan c) ?_
    rintro rs o ⟨rfl, rfl⟩
    refine wW ?_
    refine wE ?_; clear hK K
    refine Run.rW [4] (hfin _ _ rfl rfl ?_)
    refine ⟨?_, rfl⟩
    rw [wordB_eq, letB_iff.2 (letters_getD.2 hset)]
    congr 2
    by_cases h : w.length ≤ 15
    · have h' : (w.length : Int) ≤ 15 := by omega
      cases isC c <;> simp [h, h']
    · have h' : ¬ (w.length : Int) ≤ 15 := by omega
      cases isC c <;> simp [h, h']
theorem ones_succ (n : Nat) : ones n ++ [(1 : Int)] = ones (n + 1) := by simp [ones, List.replicate_succ']
theorem c_impl_ones (n : Nat) (hn : n ≤ 1048576) : FunA B 77 [.int .i64 n] (fun rs o => rs = [.own 0 0] ∧ o = [.arr .int (ones n) 0 true]) := by
  refine FunA.walk B_ok (fn := Tryz.f77) (fun vs w => Tryz.call77 vs w) Tryz.func77 rfl (by rw [Tryz.ntmps77]; simp) (fun C hC hP hT hΓ hbt hfn hpin hfin => ?_); have hX := BX; rw [← hΓ, ← hbt.1, ← hbt.2.1, ← hbt.2.2.1] at hX; rw [hT] at hX; rw [Tryz.ntmps77]; simp only [AW7, simprocAttr, hX]
  refine Run.R ?_
  refine Run.R ?_
  refine Run.R ?_
  refine Run.loopI (X := Nat) (fun i => ⟨13, [(2, true, .v .nils), (3, true, .v (.own 0 i)), (5, true, .v (.int .i64 n)), (6, true, .v (.int .i64 i))], [.arr .int (ones i) i true]⟩) (fun i => i ≤ n) (fun i => n - i) 0 (Nat.zero_le _) ?_ ?_
  · exact Le.sub (by rfl) (by simp only [AW7, simprocAttr, hX]; try simp)
  rintro i hi ih
  have hll := ones_length i
  refine Run.R ?_
  refine Run.nq ?_; refine Run.cW ?_ ?_
  · intro hc
    have hc : i < n := by simpa using hc
    refine Run.R ?_
    refine Run.RW ?_
    refine Run.le ?_ (ih (i + 1) hc (by omega))
    refine Le.cut0 hpin [_] (by rw [← ones_succ]; rfl) ?_ rfl
    simp only [AW7, simprocAttr]; try simp
  · intro hc
    have hc : i = n := by simp at hc; omega
    subst hc
    refine Run.exit rfl ?_; refine Run.nq ?_
    refine Run.R ?_
    refine Run.le (Le.re (obs' := [.arr .int (ones i) 0 true]) hpin [0] [(2, true, .own 0 0)] rfl (by simp [leOs, leO_arr, oAt]) (by refine ⟨⟨_, rfl, ?_⟩, trivial⟩; simp [leAV, oAt, genO])) ?_
    simp only [frV_cons, frV_nil]
    refine Run.rW [2] (hfin _ _ rfl rfl ?_)
    exact ⟨rfl, rfl⟩
theorem c_spec_RhoOf (c : List (List Int)) (hc : CartanP c) : FunA B 97 [.sl false (.row false) c] (fun rs o => rs = [.own 0 0] ∧ o = [.arr .int (ones c.length) 0 true]) := by
  have hcb := isC_true hc
  have hn := hc.2.1
  refine FunA.walk B_ok (fn := Tryz.f97) (fun vs w => Tryz.call97 vs w) Tryz.func97 rfl (by rw [Tryz.ntmps97]; simp) (fun C hC hP hT hΓ hbt hfn hpin hfin => ?_); have hX := BX; rw [← hΓ, ← hbt.1, ← hbt.2.1, ← hbt.2.2.1] at hX; rw [hT] at hX; rw [Tryz.ntmps97]; simp only [AW7, simprocAttr, hX]
  refine Run.R ?_
  refine Run.R ?_
  refine Run.R ?_
  refine Run.loopI (X := Nat) (fun i => ⟨20, [(0, true, .v (.sl false (.row false) c)), (2, true, .v .nils), (3, true, .v (.own 0 i)), (4, true, .v (.int .i64 i))], [.arr .int (ones i) i true]⟩) (fun i => i ≤ c.length) (fun i => c.length - i) 0 (Nat.zero_le _) ?_ ?_
  · exact Le.sub (by rfl) (by simp only [AW7, simprocAttr, hX]; try simp)
  rintro i hi ih
  have hll := ones_length i
  refine Run.nq ?_; refine Run.regionW hC (fun K hK => ?_); refine wW ?_
  refine .inl (FunA.callG hP hT (c_spec_IsCartan c) (fun _ => rfl) (fun _ => by simp only [AW7, simprocAttr]) ?_)
  refine wW ?_
  refine wE ?_; clear hK K
  refine Run.keep [0, 2, 3, 4, 13] ?_; simp only [AK, Nat.reduceBEq]
  rw [hcb]
  refine Run.nq ?_; refine Run.cW ?_ ?_
  · intro hc
    have hc : i < c.length := by
      by_cases h : (i : Int) < c.length
      · omega
      · simp [h] at hc
    refine Run.R ?_
    refine Run.RW ?_
    refine Run.le ?_ (ih (i + 1) hc (by omega))
    refine Le.cut0 hpin [_] (by rw [← ones_succ]; rfl) ?_ rfl
    simp only [AW7, simprocAttr]; try simp
  · intro hc
    have hc : i = c.length := by
      by_cases h : (i : Int) < c.length
      · simp [h] at hc
      · omega
    subst hc
    refine Run.exit rfl ?_; refine Run.nq ?_
    refine Run.R ?_
    refine Run.le (Le.re (obs' := [.arr .int (ones c.length) 0 true]) hpin [0] [(2, true, .own 0 0)] rfl (by simp [leOs, leO_arr, oAt]) (by refine ⟨⟨_, rfl, ?_⟩, trivial⟩; simp [leAV, oAt, genO])) ?_
    simp only [frV_cons, frV_nil]
    refine Run.rW [2] (hfin _ _ rfl rfl ?_)
    exact ⟨rfl, rfl⟩
theorem wrap_sub_wrap (a b : Int) : IntKind.i64.wrap (a - IntKind.i64.wrap b) = IntKind.i64.wrap (a - b) := by
  unfold IntKind.wrap
  simp [IntKind.bits, IntKind.signed]
  omega
def reflM (c : List (List Int)) (i : Int) (v : List Int) (m : Nat) : List Int := (List.range v.length).map fun k => if k < m then v.getD k 0 - v.getD i.toNat 0 * ent c k i.toNat else v.getD k 0
theorem reflM_length (c : List (List Int)) (i : Int) (v : List Int) (m : Nat) : (reflM c i v m).length = v.length := by simp [reflM]
theorem reflM_zero (c : List (List Int)) (i : Int) (v : List Int) : reflM c i v 0 = v := by
  apply List.ext_getElem?
  intro k
  by_cases hk : k < v.length
  · simp [reflM, hk]
  · rw [List.getElem?_eq_none (by rw [reflM_length]; omega), List.getElem?_eq_none (by omega)]
theorem reflM_end (c : List (List Int)) (i : Int) (v : List Int) : reflM c i v v.length = reflL c i v := by
  simp only [reflM, reflL]
  apply List.map_congr_left
  intro k hk
  rw [if_pos (List.mem_range.1 hk)]
theorem reflM_get (c : List (List Int)) (i : Int) (v : List Int) (m : Nat) (h : m < v.length) : (reflM c i v m).getD m 0 = v.getD m 0 := by
  simp [reflM, List.getD_eq_getElem?_getD, h]
theorem reflM_set (c : List (List Int)) (i : Int) (v : List Int) (m : Nat) (h : m < v.length) : (reflM c i v m).set m (v.getD m 0 - v.getD i.toNat 0 * ent c m i.toNat) = reflM c i v (m + 1) := by
  apply List.ext_getElem?
  intro k
  rw [List.getElem?_set]
  simp only [reflM, List.length_map, List.length_range]
  by_cases hk : m = k
  · subst hk
    simp [h]
  · rw [if_neg hk]
    by_cases h1 : k < v.length
    · simp only [List.getElem?_map, List.getElem?_range h1, Option.map_some]
      have : (k < m) = (k < m + 1) := by simp only [eq_iff_iff]; omega
      simp [this]
    · rw [List.getElem?_eq_none (by simpa using h1), List.getElem?_eq_none (by simpa using h1)]
theorem c_impl_reflected (c : List (List Int)) (i : Int) (v : List Int) (hc : CartanP c) (hv : v.length = c.length) (hi : 0 ≤ i ∧ i < c.length) (hB : Bd 9223372036854775807 (reflL c i v)) :
    FunM B 103 [.sl false (.row false) c, .int .i64 i, .own 0 0] .int v true (fun rs o => rs = [] ∧ o = [.arr .int (reflL c i v) 0 true]) := by
  have hn := hc.2.1
  have hrow := hc.2.2.1
  refine FunM.walk B_ok (fn := Tryz.f103) (fun vs w => Tryz.call103 vs w) Tryz.func103 rfl (by rw [Tryz.ntmps103]; simp) (fun C hC hP hT hΓ hbt hfn hpin hfin => ?_); have hX := BX; rw [← hΓ, ← hbt.1, ← hbt.2.1, ← hbt.2.2.1] at hX; rw [hT] at hX; rw [Tryz.ntmps103]; simp only [AW7, simprocAttr, hX]
  refine Run.R ?_
  refine Run.R ?_
  refine Run.keep [0, 1, 2, 6, 13, 14] ?_; simp only [AK, Nat.reduceBEq]
  refine Run.loopI (X := Nat) (fun m => ⟨33, [(0, true, .v (.sl false (.row false) c)), (1, true, .v (.int .i64 i)), (2, true, .v (.own 0 0)), (6, true, .v (.int .i64 (v.getD i.toNat 0))), (13, true, .v (.int .i64 v.length)), (14, true, .v (.int .i64 m))], [.arr .int (reflM c i v m) 0 true]⟩) (fun m => m ≤ v.length) (fun m => v.length - m) 0 (Nat.zero_le _) ?_ ?_
  · exact Le.sub (by rw [reflM_zero]) (by simp only [AW7, simprocAttr, hX]; try simp)
  rintro m hm ih
  have hml := reflM_length c i v m
  refine Run.R ?_
  refine Run.nq ?_; refine Run.cW ?_ ?_
  · intro h
    have h : m < v.length := by simpa using h
    have hrm := hrow m (by omega)
    refine Run.R ?_
    refine Run.nq ?_; refine Run.regionD hC true [0,1,2,3,4,5,6,7,8,9,10,11,12,13,14,15] (by kernel_rfl) (fun K hK => ?_); simp only [AW7, simprocAttr, hX]; (repeat (with_reducible refine And.intro ?_ ?_); exact vc0); refine wE ?_; clear hK K
    have e1 : IntKind.i64.wrap ((reflM c i v m).getD m 0 - IntKind.i64.wrap (v.getD i.toNat 0 * ent c m i.toNat)) = v.getD m 0 - v.getD i.toNat 0 * ent c m i.toNat := by
      rw [reflM_get c i v m h, wrap_sub_wrap]
      have := hB m
      rw [reflL_get c i v m h] at this
      exact wrap_id (by omega)
    simp only [e1]
    refine Run.RW ?_
    refine Run.le ?_ (ih (m + 1) h (by omega))
    refine Le.sub (by rw [reflM_set c i v m h]) ?_
    simp only [AW7, simprocAttr]; try simp
  · intro h
    have h : m = v.length := by simp at h; omega
    subst h
    refine Run.exit rfl ?_; refine Run.nq ?_
    rw [reflM_end]
    refine Run.doneW (xs := []) [] (by decide) (by rw [hfn]; rfl) rfl trivial (hfin _ _ _ rfl rfl rfl ?_)
    exact ⟨rfl, rfl⟩
end Go.Proofs.YtaghdbbcadhjdaaGreatDoor
namespace Go.Proofs.YtaghdbbcadhjdaaGreatDoor
open Go Go.Aw Go.Cox
theorem reflL_snoc (c : List (List Int)) (i : Int) (v : List Int) (m : Nat) (h : m < v.length) : (reflL c i v).take m ++ [v.getD m 0 - v.getD i.toNat 0 * ent c m i.toNat] = (reflL c i v).take (m + 1) := by
  rw [← take_snoc 0 _ m (by rw [reflL_length]; exact h), reflL_get c i v m h]
theorem c_spec_l6Reflect (c : List (List Int)) (i : Int) (v : List Int) (hc : CartanP c) (hv : v.length = c.length) (hi : 0 ≤ i ∧ i < c.length) (hB : Bd 9223372036854775807 (reflL c i v)) :
    FunA B 96 [.sl false (.row false) c, .int .i64 i, .sl false .int v] (fun rs o => rs = [.own 0 0] ∧ o = [.arr .int (reflL c i v) 0 true]) := by
  have hn := hc.2.1
  have hrow := hc.2.2.1
  have hrl := reflL_length c i v
  refine FunA.walk B_ok (fn := Tryz.f96) (fun vs w => Tryz.call96 vs w) Tryz.func96 rfl (by rw [Tryz.ntmps96]; simp) (fun C hC hP hT hΓ hbt hfn hpin hfin => ?_); have hX := BX; rw [← hΓ, ← hbt.1, ← hbt.2.1, ← hbt.2.2.1] at hX; rw [hT] at hX; rw [Tryz.ntmps96]; simp only [AW7, simprocAttr, hX]
  refine Run.R ?_
  refine Run.R ?_
  refine Run.R ?_
  refine Run.loopI (X := Nat) (fun m => ⟨37, [(0, true, .v (.sl false (.row false) c)), (1, true, .v (.int .i64 i)), (2, true, .v (.sl false .int v)), (6, true, .v .nils), (7, true, .v (.own 0 m)), (8, true, .v (.int .i64 m))], [.arr .int ((reflL c i v).take m) m true]⟩) (fun m => m ≤ v.length) (fun m => v.length - m) 0 (Nat.zero_le _) ?_ ?_
  · exact Le.sub (by rfl) (by simp only [AW7, simprocAttr, hX]; try simp)
  rintro m hm ih
  have hll : ((reflL c i v).take m).length = m := by simp; omega
  refine Run.R ?_
  refine Run.nq ?_; refine Run.cW ?_ ?_
  · intro h
    have h : m < v.length := by simpa using h
    have hrm := hrow m (by omega)
    refine Run.keep [0, 1, 2, 6, 7, 8] ?_; simp only [AK, Nat.reduceBEq]
    refine Run.nq ?_
    refine Run.regionD hC true [0,1,2,3,4,5,6,7,8,9,10,11,12,13,14,15,16,17,18,19,20] (by kernel_rfl) (fun K hK => ?_)
    simp only [AW7, simprocAttr, hX]
    (repeat (with_reducible refine And.intro ?_ ?_); exact vc0)
    refine wE ?_; clear hK K
    have e1 : IntKind.i64.wrap (v.getD m 0 - IntKind.i64.wrap (v.getD i.toNat 0 * ent c m i.toNat)) = v.getD m 0 - v.getD i.toNat 0 * ent c m i.toNat := by
      rw [wrap_sub_wrap]
      have := hB m
      rw [reflL_get c i v m h] at this
      exact wrap_id (by omega)
    simp only [e1]
    refine Run.RW ?_
    refine Run.le ?_ (ih (m + 1) h (by omega))
    refine Le.cut0 hpin [_] (by rw [← reflL_snoc c i v m h]; rfl) ?_ rfl
    simp only [AW7, simprocAttr]; try simp
  · intro h
    have h : m = v.length := by simp at h; omega
    subst h
    refine Run.exit rfl ?_; refine Run.nq ?_
    refine Run.R ?_
    refine Run.le (Le.re (obs' := [.arr .int (reflL c i v) 0 true]) hpin [0] [(6, true, .own 0 0)] rfl (by simp [leOs, leO_arr, oAt, ← hrl]) (by refine ⟨⟨_, rfl, ?_⟩, trivial⟩; simp [leAV, oAt, genO])) ?_
    simp only [frV_cons, frV_nil]
    refine Run.rW [6] (hfin _ _ rfl rfl ?_)
    exact ⟨rfl, rfl⟩
theorem actL_drop (c : List (List Int)) (w v : List Int) (j : Nat) (h : j < w.length) : actL c (w.drop j) v = reflL c (w.getD j 0) (actL c (w.drop (j + 1)) v) := by
  rw [List.drop_eq_getElem_cons h, show w.getD j 0 = w[j] from by simp [h]]
  rfl
theorem c_impl_acted (c : List (List Int)) (w v : List Int) (hc : CartanP c) (hw : letters c.length w) (hv : v.length = c.length) (hB : ∀ j, Bd 9223372036854775807 (actL c (w.drop j) v)) (hl : w.length ≤ 1048576) :
    FunA B 76 [.sl false (.row false) c, .sl false .int w, .sl false .int v] (fun rs o => rs = [.own 0 0] ∧ o = [.arr .int (actL c w v) 0 true]) := by
  have hn := hc.2.1
  refine FunA.walk B_ok (fn := Tryz.f76) (fun vs w => Tryz.call76 vs w) Tryz.func76 rfl (by rw [Tryz.ntmps76]; simp) (fun C hC hP hT hΓ hbt hfn hpin hfin => ?_); have hX := BX; rw [← hΓ, ← hbt.1, ← hbt.2.1, ← hbt.2.2.1] at hX; rw [hT] at hX; rw [Tryz.ntmps76]; simp only [AW7, simprocAttr, hX]
  refine Run.R ?_
  refine Run.R ?_
  refine Run.le (Le.re (obs' := [.arr .int v 0 true]) hpin [0] [(0, true, .sl false (.row false) c), (1, true, .sl false .int w), (6, true, .nils), (7, true, .own 0 0)] rfl (by simp [leOs, leO_arr, oAt]) (by refine ⟨⟨_, rfl, ?_⟩, ⟨_, rfl, ?_⟩, ⟨_, rfl, ?_⟩, ⟨_, rfl, ?_⟩, trivial⟩ <;> simp [leAV, oAt, genO])) ?_
  simp only [frV_cons, frV_nil]
  refine Run.RW ?_
  refine Run.loopI (X := Nat) (fun m => ⟨27, [(0, true, .v (.sl false (.row false) c)), (1, true, .v (.sl false .int w)), (6, true, .v .nils), (7, true, .v (.own 0 0)), (8, true, .v (.int .i64 ((w.length : Int) - 1 - m)))], [.arr .int (actL c (w.drop (w.length - m)) v) 0 true]⟩) (fun m => m ≤ w.length) (fun m => w.length - m) 0 (Nat.zero_le _) ?_ ?_
  · exact Le.sub (by simp [actL]) (by simp only [AW7, simprocAttr, hX]; try simp)
  rintro m hm ih
  refine Run.R ?_
  refine Run.nq ?_; refine Run.cW ?_ ?_
  · intro h
    have h : m < w.length := by simp at h; omega
    have e1 : ((w.length : Int) - 1 - m).toNat = w.length - (m + 1) := by omega
    have e2 : w.length - (m + 1) + 1 = w.length - m := by omega
    have hd := actL_drop c w v (w.length - (m + 1)) (by omega)
    rw [e2] at hd
    have hlet := letters_getD.1 hw (w.length - (m + 1)) (by omega)
    have hB' := hB (w.length - (m + 1))
    rw [hd] at hB'
    refine Run.nq ?_; refine Run.regionW hC (fun K hK => ?_); refine wW ?_
    simp only [e1]
    refine FunM.call hP hT (c_impl_reflected c (w.getD (w.length - (m + 1)) 0) (actL c (w.drop (w.length - m)) v) hc (by rw [actL_length, hv]) hlet hB') 0 0 (by simp only [AW7, simprocAttr]; rfl) (by simp) rfl (by simp only [AW7, simprocAttr]; try simp) ?_
    rintro rs o' obs' ⟨rfl, h⟩
    obtain ⟨rfl, rfl⟩ := List.cons.inj h
    refine wW ?_
    refine wE ?_; clear hK K
    refine Run.RW ?_
    refine Run.le ?_ (ih (m + 1) (by omega) (by omega))
    refine Le.sub (by rw [hd]) ?_
    simp only [AW7, simprocAttr]; try simp; omega
  · intro h
    have h : m = w.length := by simp at h; omega
    subst h
    rw [show w.length - w.length = 0 from by omega, List.drop_zero]
    refine Run.exit rfl ?_; refine Run.nq ?_
    refine Run.R ?_
    refine Run.keep [6] ?_; simp only [AK, Nat.reduceBEq]
    refine Run.rW [6] (hfin _ _ rfl rfl ?_)
    exact ⟨rfl, rfl⟩
theorem image_bd {c : List (List Int)} (hc : CartanP c) {w : List Int} (hw : letters c.length w) (hl : w.length ≤ 31) : Bd 4611686018427387904 (imageL c w) := by
  refine (Bd.image hc w hw).mono ?_
  have h : ((4 : Int) ^ w.length) ≤ 4 ^ 31 := pow4_le hl
  have e : ((4 : Int) ^ 31) = 4611686018427387904 := by decide
  rw [e] at h
  exact h
theorem letters_drop {n : Nat} {w : List Int} (h : letters n w) (j : Nat) : letters n (w.drop j) := fun i hi => h i (List.mem_of_mem_drop hi)
theorem c_impl_image (c : List (List Int)) (w : List Int) (hc : CartanP c) (hw : letters c.length w) (hl : w.length ≤ 31) :
    FunA B 44 [.sl false (.row false) c, .sl false .int w] (fun rs o => rs = [.own 0 0] ∧ o = [.arr .int (imageL c w) 0 true]) := by
  have hn := hc.2.1
  refine FunA.walk B_ok (fn := Tryz.f44) (fun vs w => Tryz.call44 vs w) Tryz.func44 rfl (by rw [Tryz.ntmps44]; simp) (fun C hC hP hT hΓ hbt hfn hpin hfin => ?_); have hX := BX; rw [← hΓ, ← hbt.1, ← hbt.2.1, ← hbt.2.2.1] at hX; rw [hT] at hX; rw [Tryz.ntmps44]; simp only [AW7, simprocAttr, hX]
  refine Run.R ?_
  refine Run.nq ?_; refine Run.regionW hC (fun K hK => ?_); refine wW ?_
  refine FunA.cW hP hT (c_impl_ones c.length (by omega)) ?_
  rintro rs o ⟨rfl, rfl⟩
  refine wW ?_
  refine FunA.cW hP hT (c_impl_acted c w (ones c.length) hc hw (ones_length _) (fun j => (image_bd hc (letters_drop hw j) (by simp; omega)).mono (by decide)) (by omega)) ?_
  rintro rs o ⟨rfl, rfl⟩
  refine wW ?_
  refine wE ?_; clear hK K
  refine Run.le (Le.re (obs' := [.arr .int (imageL c w) 0 true]) hpin [1] [(4, true, .own 0 0)] rfl (by simp [leOs, leO_arr, oAt, imageL]) (by refine ⟨⟨_, rfl, ?_⟩, trivial⟩; simp [leAV, oAt, genO])) ?_
  simp only [frV_cons, frV_nil]
  refine Run.rW [4] (hfin _ _ rfl rfl ?_)
  exact ⟨rfl, rfl⟩
theorem c_spec_l8Image (c : List (List Int)) (w : List Int) (hc : CartanP c) (hw : letters c.length w) (hl : w.length ≤ 31) :
    FunA B 65 [.sl false (.row false) c, .sl false .int w] (fun rs o => rs = [.own 0 0] ∧ o = [.arr .int (imageL c w) 0 true]) := by
  have hn := hc.2.1
  refine FunA.walk B_ok (fn := Tryz.f65) (fun vs w => Tryz.call65 vs w) Tryz.func65 rfl (by rw [Tryz.ntmps65]; simp) (fun C hC hP hT hΓ hbt hfn hpin hfin => ?_); have hX := BX; rw [← hΓ, ← hbt.1, ← hbt.2.1, ← hbt.2.2.1] at hX; rw [hT] at hX; rw [Tryz.ntmps65]; simp only [AW7, simprocAttr, hX]
  refine Run.R ?_
  refine Run.nq ?_; refine Run.regionW hC (fun K hK => ?_); refine wW ?_
  refine FunA.cW hP hT (c_spec_RhoOf c hc) ?_
  rintro rs o ⟨rfl, rfl⟩
  refine wW ?_
  refine wE ?_; clear hK K
  refine Run.RW ?_
  refine Run.loopI (X := Nat) (fun m => ⟨24, [(0, true, .v (.sl false (.row false) c)), (1, true, .v (.sl false .int w)), (4, true, .v .nils), (5, true, .v (.own 0 0)), (6, true, .v (.int .i64 ((w.length : Int) - 1 - m)))], [.arr .int (imageL c (w.drop (w.length - m))) 0 true]⟩) (fun m => m ≤ w.length) (fun m => w.length - m) 0 (Nat.zero_le _) ?_ ?_
  · exact Le.sub (by simp [imageL, actL]) (by simp only [AW7, simprocAttr, hX]; try simp)
  rintro m hm ih
  refine Run.R ?_
  refine Run.nq ?_; refine Run.cW ?_ ?_
  · intro h
    have h : m < w.length := by simp at h; omega
    have e1 : ((w.length : Int) - 1 - m).toNat = w.length - (m + 1) := by omega
    have e2 : w.length - (m + 1) + 1 = w.length - m := by omega
    have hd := actL_drop c w (ones c.length) (w.length - (m + 1)) (by omega)
    rw [e2] at hd
    have hlet := letters_getD.1 hw (w.length - (m + 1)) (by omega)
    have hB' : Bd 9223372036854775807 (imageL c (w.drop (w.length - (m + 1)))) := (image_bd hc (letters_drop hw _) (by simp; omega)).mono (by decide)
    have hd' : imageL c (w.drop (w.length - (m + 1))) = reflL c (w.getD (w.length - (m + 1)) 0) (imageL c (w.drop (w.length - m))) := hd
    rw [hd'] at hB'
    refine Run.nq ?_; refine Run.regionW hC (fun K hK => ?_); refine wW ?_
    simp only [e1]
    refine FunA.cW hP hT (c_spec_l6Reflect c (w.getD (w.length - (m + 1)) 0) (imageL c (w.drop (w.length - m))) hc (imageL_length ..) hlet hB') ?_
    rintro rs o ⟨rfl, rfl⟩
    refine wW ?_
    refine wE ?_; clear hK K
    refine Run.RW ?_
    refine Run.le ?_ (ih (m + 1) (by omega) (by omega))
    refine Le.re (obs' := [.arr .int (imageL c (w.drop (w.length - (m + 1)))) 0 true]) hpin [1] [(0, true, .sl false (.row false) c), (1, true, .sl false .int w), (4, true, .nils), (5, true, .own 0 0), (6, true, .int .i64 ((w.length : Int) - 1 - ((m + 1 : Nat) : Int)))] rfl (by simp [leOs, leO_arr, oAt, hd']) ?_
    refine ⟨⟨_, rfl, ?_⟩, ⟨_, rfl, ?_⟩, ⟨_, rfl, ?_⟩, ⟨_, rfl, ?_⟩, ⟨_, rfl, ?_⟩, trivial⟩ <;> simp [leAV, oAt, genO]
    omega
  · intro h
    have h : m = w.length := by simp at h; omega
    subst h
    rw [show w.length - w.length = 0 from by omega, List.drop_zero]
    refine Run.exit rfl ?_; refine Run.nq ?_
    refine Run.R ?_
    refine Run.keep [4] ?_; simp only [AK, Nat.reduceBEq]
    refine Run.rW [4] (hfin _ _ rfl rfl ?_)
    exact ⟨rfl, rfl⟩
end Go.Proofs.YtaghdbbcadhjdaaGreatDoor
namespace Go.Proofs.YtaghdbbcadhjdaaGreatDoor
open Go Go.Aw Go.Cox
theorem firstNeg_more (v : List Int) : ∀ n m, n ≤ m → 0 ≤ firstNeg v n → firstNeg v m = firstNeg v n := by
  intro n m h h0
  induction m with
  | zero => have : n = 0 := by omega
            subst this; rfl
  | succ m ih =>
    by_cases hn : n = m + 1
    · subst hn; rfl
    · have := ih (by omega)
      simp only [firstNeg]
      rw [if_neg (by omega), this]
theorem c_impl_firstDescent (v : List Int) (hl : v.length ≤ 1048576) : FunA B 106 [.sl false .int v] (fun rs o => rs = [.int .i64 (fstN v)] ∧ o = []) := by
  refine FunA.walk B_ok (fn := Tryz.f106) (fun vs w => Tryz.call106 vs w) Tryz.func106 rfl (by rw [Tryz.ntmps106]; simp) (fun C hC hP hT hΓ hbt hfn hpin hfin => ?_); have hX := BX; rw [← hΓ, ← hbt.1, ← hbt.2.1, ← hbt.2.2.1] at hX; rw [hT] at hX; rw [Tryz.ntmps106]; simp only [AW7, simprocAttr, hX]
  refine Run.R ?_
  refine Run.R ?_
  refine Run.loopI (X := Nat) (fun i => ⟨16, [(2, true, .v (.int .i64 0)), (5, true, .v (.sl false .int v)), (6, true, .v (.int .i64 v.length)), (7, true, .v (.int .i64 i))], []⟩) (fun i => i ≤ v.length ∧ firstNeg v i < 0) (fun i => v.length - i) 0 ⟨Nat.zero_le _, by simp [firstNeg]⟩ ?_ ?_
  · exact Le.sub (by simp only [AW7, simprocAttr]) (by simp only [AW7, simprocAttr]; try simp)
  rintro i ⟨hi, hf⟩ ih
  refine Run.R ?_
  refine Run.nq ?_; refine Run.cW ?_ ?_
  · intro h
    have h : i < v.length := by simpa using h
    refine Run.R ?_
    refine Run.R ?_
    have hs : firstNeg v (i + 1) = if v.getD i 0 < 0 then (i : Int) else -1 := by simp only [firstNeg]; rw [if_pos hf]
    refine Run.nq ?_; refine Run.cW ?_ ?_
    · intro hx
      have hx : v.getD i 0 < 0 := by simpa using hx
      refine Run.R ?_
      refine Run.rW [2] (hfin _ _ rfl rfl ?_)
      refine ⟨?_, rfl⟩
      rw [if_pos hx] at hs
      unfold fstN
      rw [firstNeg_more v (i + 1) v.length h (by omega), hs]
    · intro hx
      have hx : ¬ v.getD i 0 < 0 := by simpa using hx
      refine Run.RW ?_
      refine Run.le ?_ (ih (i + 1) ⟨h, by rw [hs, if_neg hx]; decide⟩ (by omega))
      exact Le.sub (by simp only [AW7, simprocAttr]) (by simp only [AW7, simprocAttr, Option.some.injEq, Prod.mk.injEq, Sl.v.injEq, AV.int.injEq, AV.own.injEq, AV.bool.injEq]; try (repeat' apply And.intro); all_goals omega)
  · intro h
    have h : i = v.length := by simp at h; omega
    subst h
    refine Run.exit rfl ?_; refine Run.nq ?_
    refine Run.R ?_
    refine Run.rW [2] (hfin _ _ rfl rfl ?_)
    refine ⟨?_, rfl⟩
    have : fstN v = -1 := by
      unfold fstN
      rcases firstNeg_spec v v.length with ⟨h1, _⟩ | ⟨i, h1, _⟩
      · exact h1
      · rw [h1] at hf; omega
    rw [this]
theorem nf_letters {c : List (List Int)} (hc : CartanP c) : ∀ (f L : Nat) {v : List Int}, Far c L v → L ≤ f → ∀ j, j < L → fstN (imageL c ((nfL c f v).drop j)) = (nfL c f v).getD j 0
  | 0, L, v, h, hf, j, hj => by omega
  | f + 1, L, v, h, hf, j, hj => by
    obtain ⟨k1, k2, k3⟩ := nfL_far hc (f + 1) L h hf
    rcases fst_of_far hc h with ⟨h1, h2⟩ | ⟨h1, h2, h3, M, h4, h5⟩
    · omega
    · have e : nfL c (f + 1) v = fstN v :: nfL c f (reflL c (fstN v) v) := by simp only [nfL]; rw [if_neg (by omega)]
      cases j with
      | zero => rw [List.drop_zero, k3, e]; rfl
      | succ j =>
        rw [e, List.drop_succ_cons]
        have := nf_letters hc f M h5 (by omega) j (by omega)
        rw [this]
        simp
theorem nf_steps {c : List (List Int)} (hc : CartanP c) {L : Nat} {v : List Int} (h : Far c L v) (hL : L ≤ 31) :
    (nfL c 31 v).length = L ∧ letters c.length (nfL c 31 v) ∧ imageL c (nfL c 31 v) = v ∧
    (∀ j, j < L → fstN (imageL c ((nfL c 31 v).drop j)) = (nfL c 31 v).getD j 0 ∧ reflL c ((nfL c 31 v).getD j 0) (imageL c ((nfL c 31 v).drop j)) = imageL c ((nfL c 31 v).drop (j + 1))) ∧
    fstN (imageL c ((nfL c 31 v).drop L)) < 0 ∧ ∀ j, Far c (L - j) (imageL c ((nfL c 31 v).drop j)) := by
  obtain ⟨k1, k2, k3⟩ := nfL_far hc 31 L h hL
  have hfar : ∀ j, Far c (L - j) (imageL c ((nfL c 31 v).drop j)) := by
    intro j
    induction j with
    | zero => rw [List.drop_zero, k3]; exact h
    | succ j ih =>
      by_cases hj : j < L
      · have hlet := nf_letters hc 31 L h hL j hj
        have hd := actL_drop c (nfL c 31 v) (ones c.length) j (by omega)
        have hg := letters_getD.1 k2 j (by omega)
        rcases fst_of_far hc ih with ⟨_, h2⟩ | ⟨_, _, _, M, h4, h5⟩
        · omega
        · rw [hlet] at h5
          have e : reflL c ((nfL c 31 v).getD j 0) (imageL c ((nfL c 31 v).drop j)) = imageL c ((nfL c 31 v).drop (j + 1)) := by
            show reflL c _ (actL c _ _) = actL c _ _
            rw [hd]
            exact refl2 hc hg (imageL_length c _)
          rw [e] at h5
          rw [show L - (j + 1) = M from by omega]
          exact h5
      · rw [List.drop_eq_nil_of_le (by omega), show L - (j + 1) = 0 from by omega]
        exact Far.ones c
  refine ⟨k1, k2, k3, fun j hj => ⟨nf_letters hc 31 L h hL j hj, ?_⟩, ?_, hfar⟩
  · have hd := actL_drop c (nfL c 31 v) (ones c.length) j (by omega)
    show reflL c _ (actL c _ _) = actL c _ _
    rw [hd]
    exact refl2 hc (letters_getD.1 k2 j (by omega)) (imageL_length c _)
  · have := hfar L
    rw [Nat.sub_self] at this
    exact (fst_zero hc this).2 rfl
theorem c_impl_normal (c : List (List Int)) (v : List Int) (L : Nat) (hc : CartanP c) (hF : Far c L v) (hL : L ≤ 31) :
    FunA B 69 [.sl false (.row false) c, .sl false .int v] (fun rs o => rs = [.own 0 0] ∧ o = [.arr .int (nfL c 31 v) 0 true]) := by
  have hn := hc.2.1
  have hvl : v.length = c.length := hF.1
  obtain ⟨s1, s2, s3, s4, s5, s6⟩ := nf_steps hc hF hL
  obtain ⟨r, hr⟩ : ∃ r, r = nfL c 31 v := ⟨_, rfl⟩
  rw [← hr] at s1 s2 s3 s4 s5 s6 ⊢
  have hbd : ∀ j, Bd 9223372036854775807 (imageL c (r.drop j)) := fun j => (image_bd hc (letters_drop s2 j) (by simp; omega)).mono (by decide)
  refine FunA.walk B_ok (fn := Tryz.f69) (fun vs w => Tryz.call69 vs w) Tryz.func69 rfl (by rw [Tryz.ntmps69]; simp) (fun C hC hP hT hΓ hbt hfn hpin hfin => ?_); have hX := BX; rw [← hΓ, ← hbt.1, ← hbt.2.1, ← hbt.2.2.1] at hX; rw [hT] at hX; rw [Tryz.ntmps69]; simp only [AW7, simprocAttr, hX]
  refine Run.R ?_
  refine Run.R ?_
  refine Run.le (Le.re (obs' := [.arr .int v 0 true]) hpin [0] [(0, true, .sl false (.row false) c), (1, true, .own 0 0), (4, true, .nils)] rfl (by simp [leOs, leO_arr, oAt]) (by refine ⟨⟨_, rfl, ?_⟩, ⟨_, rfl, ?_⟩, ⟨_, rfl, ?_⟩, trivial⟩ <;> simp [leAV, oAt, genO])) ?_
  simp only [frV_cons, frV_nil]
  refine Run.R ?_
  refine Run.loopI (X := Nat) (fun j => ⟨24, [(0, true, .v (.sl false (.row false) c)), (1, true, .v (.own 0 0)), (4, true, .v .nils), (5, true, .v (.own 1 j))], [.arr .int (imageL c (r.drop j)) 0 true, .arr .int (r.take j) j true]⟩) (fun j => j ≤ L) (fun j => L - j) 0 (Nat.zero_le _) ?_ ?_
  · exact Le.sub (by rw [List.drop_zero, s3]; rfl) (by simp only [AW7, simprocAttr, hX]; try simp)
  rintro j hj ih
  have hil := imageL_length c (r.drop j)
  have htl : (r.take j).length = j := by simp; omega
  refine Run.nq ?_; refine Run.regionW hC (fun K hK => ?_); refine wW ?_
  refine FunA.cW hP hT (c_impl_firstDescent (imageL c (r.drop j)) (by omega)) ?_
  rintro rs o ⟨rfl, rfl⟩
  refine wW ?_
  refine wE ?_; clear hK K
  refine Run.R ?_
  refine Run.nq ?_; refine Run.cW ?_ ?_
  · intro h
    have h : fstN (imageL c (r.drop j)) < 0 := by simpa using h
    have hjL : j = L := by
      have := (fst_zero hc (s6 j)).1 h
      omega
    subst hjL
    refine Run.R ?_
    refine Run.le (Le.re (obs' := [.arr .int r 0 true]) hpin [1] [(4, true, .own 0 0)] rfl (by simp [leOs, leO_arr, oAt, ← s1]) (by refine ⟨⟨_, rfl, ?_⟩, trivial⟩; simp [leAV, oAt, genO])) ?_
    simp only [frV_cons, frV_nil]
    refine Run.rW [4] (hfin _ _ rfl rfl ?_)
    exact ⟨rfl, rfl⟩
  · intro h
    have h : ¬ fstN (imageL c (r.drop j)) < 0 := by simpa using h
    have hjL : j < L := by
      refine Classical.byContradiction fun hn => h ?_
      rw [show j = L from by omega]; exact s5
    obtain ⟨q1, q2⟩ := s4 j hjL
    rw [q1]
    have hB' := hbd (j + 1)
    rw [← q2] at hB'
    refine Run.R ?_
    refine Run.le (Le.cut0 hpin [_] (fr' := [(0, true, .v (.sl false (.row false) c)), (1, true, .v (.own 0 0)), (4, true, .v .nils), (5, true, .v (.own 1 (j + 1))), (6, true, .v (.int .i64 (r.getD j 0)))]) (obs' := [.arr .int (imageL c (r.drop j)) 0 true, .arr .int (r.take j ++ [r.getD j 0]) (j + 1) true]) rfl (by simp only [AW7, simprocAttr]; try simp) rfl) ?_
    rw [take_snoc 0 r j (by omega)]
    refine Run.nq ?_; refine Run.regionW hC (fun K hK => ?_); refine wW ?_
    refine FunM.call hP hT (c_impl_reflected c (r.getD j 0) (imageL c (r.drop j)) hc hil (letters_getD.1 s2 j (by omega)) hB') 0 0 (by simp only [AW7, simprocAttr]; rfl) (by simp) rfl (by simp only [AW7, simprocAttr]; try simp) ?_
    rintro rs o' obs' ⟨rfl, h⟩
    obtain ⟨rfl, rfl⟩ := List.cons.inj h
    refine wW ?_
    refine wE ?_; clear hK K
    refine Run.le ?_ (ih (j + 1) hjL (by omega))
    exact Le.sub (by rw [q2]) (by simp only [AW7, simprocAttr]; try simp)
theorem fst_pos {c : List (List Int)} (hc : CartanP c) {M : Nat} {v : List Int} (h : Far c M v) {k : Nat} (hk : k < c.length) (hpre : ∀ q, q < k → 0 < v.getD q 0) (hv : ¬ 0 < v.getD k 0) : fstN v = k := by
  have hz := h.nz hc k hk
  rcases firstNeg_spec v v.length with ⟨_, h2⟩ | ⟨i, h1, h2, h3, h4⟩
  · have := h2 k (by rw [h.1]; exact hk); omega
  · have e : fstN v = i := h1
    rw [e]
    by_cases hik : i < k
    · have := hpre i hik; omega
    · by_cases hki : k < i
      · have := h4 k hki; omega
      · omega
theorem fst_none {c : List (List Int)} (hc : CartanP c) {M : Nat} {v : List Int} (h : Far c M v) (hpre : ∀ q, q < c.length → 0 < v.getD q 0) : M = 0 := by
  rcases fst_of_far hc h with ⟨_, h2⟩ | ⟨h1, h2, h3, _⟩
  · exact h2
  · have := hpre (fstN v).toNat (by omega); omega
theorem c_spec_l8Form (c : List (List Int)) (v : List Int) (L : Nat) (hc : CartanP c) (hF : Far c L v) (hL : L ≤ 31) :
    FunA B 64 [.sl false (.row false) c, .sl false .int v] (fun rs o => rs = [.own 0 0] ∧ o = [.arr .int (nfL c 31 v) 0 true]) := by
  have hn := hc.2.1
  have hvl : v.length = c.length := hF.1
  obtain ⟨s1, s2, s3, s4, s5, s6⟩ := nf_steps hc hF hL
  obtain ⟨r, hr⟩ : ∃ r, r = nfL c 31 v := ⟨_, rfl⟩
  rw [← hr] at s1 s2 s3 s4 s5 s6 ⊢
  have hbd : ∀ j, Bd 9223372036854775807 (imageL c (r.drop j)) := fun j => (image_bd hc (letters_drop s2 j) (by simp; omega)).mono (by decide)
  refine FunA.walk B_ok (fn := Tryz.f64) (fun vs w => Tryz.call64 vs w) Tryz.func64 rfl (by rw [Tryz.ntmps64]; simp) (fun C hC hP hT hΓ hbt hfn hpin hfin => ?_); have hX := BX; rw [← hΓ, ← hbt.1, ← hbt.2.1, ← hbt.2.2.1] at hX; rw [hT] at hX; rw [Tryz.ntmps64]; simp only [AW7, simprocAttr, hX]
  refine Run.R ?_
  refine Run.R ?_
  refine Run.R ?_
  refine Run.keep [0, 1, 4, 5, 6] ?_; simp only [AK, Nat.reduceBEq]
  have fin : ∀ j, j = L → r.take j = r := fun j hj => by rw [hj, ← s1, List.take_length]
  refine Run.loopI (X := Nat × Bool) (fun x => ⟨40, [(0, true, .v (.sl false (.row false) c)), (1, true, .v (.sl x.2 .int (imageL c (r.drop x.1)))), (4, true, .v .nils), (5, true, .v (.own 0 x.1)), (6, true, .v (.int .i64 x.1))], [.arr .int (r.take x.1) x.1 true]⟩) (fun x => x.1 ≤ L) (fun x => 32 - x.1) (0, false) (by simp) ?_ ?_
  · exact Le.sub (by rfl) (by simp only [AW7, simprocAttr, hX]; try simp [s3])
  rintro ⟨j, fl⟩ hj ih
  simp only [] at hj ⊢
  have hil := imageL_length c (r.drop j)
  have htl : (r.take j).length = j := by simp; omega
  refine Run.R ?_
  refine Run.keep [0, 1, 4, 5, 6, 10] ?_; simp only [AK, Nat.reduceBEq]
  refine Run.nq ?_; refine Run.cW ?_ ?_
  · intro h
    refine Run.R ?_
    refine Run.keep [0, 1, 4, 5, 6, 7] ?_; simp only [AK, Nat.reduceBEq]
    refine Run.loopI (X := Nat) (fun k => ⟨40, [(0, true, .v (.sl false (.row false) c)), (1, true, .v (.sl fl .int (imageL c (r.drop j)))), (4, true, .v .nils), (5, true, .v (.own 0 j)), (6, true, .v (.int .i64 j)), (7, true, .v (.int .i64 k))], [.arr .int (r.take j) j true]⟩) (fun k => k ≤ c.length ∧ ∀ q, q < k → 0 < (imageL c (r.drop j)).getD q 0) (fun k => c.length - k) 0 ⟨Nat.zero_le _, by omega⟩ ?_ ?_
    · exact Le.sub (by rfl) (by simp only [AW7, simprocAttr, hX]; try simp)
    rintro k ⟨hk, hpre⟩ ihk
    refine Run.R ?_
    refine Run.keep [0, 1, 4, 5, 6, 7, 23] ?_; simp only [AK, Nat.reduceBEq]
    refine Run.nq ?_; refine Run.cW ?_ ?_
    · intro h2
      have h2 : k < c.length ∧ 0 < (imageL c (r.drop j)).getD k 0 := by
        rw [hil] at h2
        by_cases hq : k < c.length
        · have hq' : (k : Int) < c.length := by omega
          simp only [hq', decide_true, cond_true, decide_eq_true_eq] at h2
          exact ⟨hq, h2⟩
        · have hq' : ¬ (k : Int) < c.length := by omega
          simp [hq'] at h2
      refine Run.RW ?_
      refine Run.le ?_ (ihk (k + 1) ⟨h2.1, fun q hq => ?_⟩ (by omega))
      · exact Le.sub (by simp only [AW7, simprocAttr]) (by simp only [AW7, simprocAttr, Option.some.injEq, Prod.mk.injEq, Sl.v.injEq, AV.int.injEq, AV.own.injEq, AV.bool.injEq]; try (repeat' apply And.intro); all_goals omega)
      · rcases Nat.lt_succ_iff_lt_or_eq.1 hq with h | rfl
        · exact hpre q h
        · exact h2.2
    · intro h2
      refine Run.exit rfl ?_; refine Run.nq ?_
      refine Run.R ?_
      refine Run.keep [0, 1, 4, 5, 6, 7, 29] ?_; simp only [AK, Nat.reduceBEq]
      refine Run.nq ?_; refine Run.cW ?_ ?_
      · intro h3
        have h3 : k = c.length := by rw [hil] at h3; simp at h3; omega
        subst h3
        have hz := fst_none hc (s6 j) hpre
        refine Run.R ?_
        refine Run.le (Le.re (obs' := [.arr .int r 0 true]) hpin [0] [(4, true, .own 0 0)] rfl (by rw [fin j (by omega)]; simp [leOs, leO_arr, oAt]) (by refine ⟨⟨_, rfl, ?_⟩, trivial⟩; simp [leAV, oAt, genO])) ?_
        simp only [frV_cons, frV_nil]
        refine Run.rW [4] (hfin _ _ rfl rfl ?_)
        exact ⟨rfl, rfl⟩
      · intro h3
        have h3 : k < c.length := by
          have : ¬ k = c.length := by rw [hil] at h3; intro hk; subst hk; simp at h3
          omega
        have hnp : ¬ 0 < (imageL c (r.drop j)).getD k 0 := by
          intro hp
          rw [hil] at h2
          have hq' : (k : Int) < c.length := by omega
          simp only [hq', decide_true, cond_true, decide_eq_false_iff_not] at h2
          exact h2 hp
        have hfk := fst_pos hc (s6 j) h3 hpre hnp
        have hjL : j < L := by
          refine Classical.byContradiction fun hn2 => ?_
          have : j = L := by omega
          rw [this] at hfk
          omega
        obtain ⟨q1, q2⟩ := s4 j hjL
        rw [hfk] at q1
        have hB' := hbd (j + 1)
        rw [← q2] at hB'
        have hlet := letters_getD.1 s2 j (by omega)
        rw [q1]
        refine Run.R ?_
        refine Run.le (Le.cut0 hpin [_] (fr' := [(0, true, .v (.sl false (.row false) c)), (1, true, .v (.sl fl .int (imageL c (r.drop j)))), (4, true, .v .nils), (5, true, .v (.own 0 (j + 1))), (6, true, .v (.int .i64 j)), (7, true, .v (.int .i64 (r.getD j 0)))]) (obs' := [.arr .int (r.take j ++ [r.getD j 0]) (j + 1) true]) rfl (by simp only [AW7, simprocAttr]; try simp) rfl) ?_
        rw [take_snoc 0 r j (by omega)]
        refine Run.nq ?_; refine Run.regionW hC (fun K hK => ?_); refine wW ?_
        refine FunA.cW hP hT (c_spec_l6Reflect c (r.getD j 0) (imageL c (r.drop j)) hc hil hlet hB') ?_
        rintro rs o ⟨rfl, rfl⟩
        refine wW ?_
        refine wE ?_; clear hK K
        refine Run.RW ?_
        refine Run.le (Le.letgo 1 [(0, true, .sl false (.row false) c), (1, true, .sl true .int (reflL c (r.getD j 0) (imageL c (r.drop j)))), (4, true, .nils), (5, true, .own 0 (j + 1)), (6, true, .int .i64 ((j : Int) + 1))] rfl ?_) ?_
        · exact ⟨.inl rfl, .inr ⟨rfl, rfl⟩, .inl rfl, .inl rfl, .inl rfl, trivial⟩
        simp only [frV_cons, frV_nil, q2]
        refine Run.le ?_ (ih (j + 1, true) hjL (by simp only []; omega))
        exact Le.cut0 hpin [.dead] (by rfl) (by simp only [AW7, simprocAttr]; try simp) rfl
  · intro h
    have h : ¬ (j : Int) ≤ 30 := by simpa using h
    refine Run.exit rfl ?_; refine Run.nq ?_
    refine Run.R ?_
    refine Run.le (Le.re (obs' := [.arr .int r 0 true]) hpin [0] [(4, true, .own 0 0)] rfl (by rw [fin j (by omega)]; simp [leOs, leO_arr, oAt]) (by refine ⟨⟨_, rfl, ?_⟩, trivial⟩; simp [leAV, oAt, genO])) ?_
    simp only [frV_cons, frV_nil]
    refine Run.rW [4] (hfin _ _ rfl rfl ?_)
    exact ⟨rfl, rfl⟩
end Go.Proofs.YtaghdbbcadhjdaaGreatDoor
namespace Go.Proofs.YtaghdbbcadhjdaaGreatDoor
open Go Go.Aw Go.Cox
theorem c_spec_l8Normal (c : List (List Int)) (w : List Int) (hc : CartanP c) (hw : letters c.length w) (hl : w.length ≤ 31) :
    FunA B 33 [.sl false (.row false) c, .sl false .int w] (fun rs o => rs = [.own 0 0] ∧ o = [.arr .int (redL c w) 0 true]) := by
  obtain ⟨L, h1, h2, h3⟩ := Far.image hc hw
  have hn := hc.2.1
  refine FunA.walk B_ok (fn := Tryz.f33) (fun vs w => Tryz.call33 vs w) Tryz.func33 rfl (by rw [Tryz.ntmps33]; simp) (fun C hC hP hT hΓ hbt hfn hpin hfin => ?_); have hX := BX; rw [← hΓ, ← hbt.1, ← hbt.2.1, ← hbt.2.2.1] at hX; rw [hT] at hX; rw [Tryz.ntmps33]; simp only [AW7, simprocAttr, hX]
  refine Run.R ?_
  refine Run.nq ?_; refine Run.regionW hC (fun K hK => ?_); refine wW ?_
  refine FunA.cW hP hT (c_spec_l8Image c w hc hw hl) ?_
  rintro rs o ⟨rfl, rfl⟩
  refine wW ?_
  refine FunA.cW hP hT (c_spec_l8Form c (imageL c w) L hc h3 (by omega)) ?_
  rintro rs o ⟨rfl, rfl⟩
  refine wW ?_
  refine wE ?_; clear hK K
  refine Run.le (Le.re (obs' := [.arr .int (redL c w) 0 true]) hpin [1] [(4, true, .own 0 0)] rfl (by simp [leOs, leO_arr, oAt, redL]) (by refine ⟨⟨_, rfl, ?_⟩, trivial⟩; simp [leAV, oAt, genO])) ?_
  simp only [frV_cons, frV_nil]
  refine Run.rW [4] (hfin _ _ rfl rfl ?_)
  exact ⟨rfl, rfl⟩
noncomputable def nfW (c : List (List Int)) (w : List Int) : List Int := if wordB c w then redL c w else []
theorem c_spec_NormalForm (c : List (List Int)) (w : List Int) (hcl : c.length ≤ 1048576) :
    FunA B 72 [.sl false (.row false) c, .sl false .int w] (fun rs o => rs = [.own 0 0, .bool (wordB c w)] ∧ o = [.arr .int (nfW c w) 0 true]) := by
  refine FunA.walk B_ok (fn := Tryz.f72) (fun vs w => Tryz.call72 vs w) Tryz.func72 rfl (by rw [Tryz.ntmps72]; simp) (fun C hC hP hT hΓ hbt hfn hpin hfin => ?_); have hX := BX; rw [← hΓ, ← hbt.1, ← hbt.2.1, ← hbt.2.2.1] at hX; rw [hT] at hX; rw [Tryz.ntmps72]; simp only [AW7, simprocAttr, hX]
  refine Run.R ?_
  refine Run.nq ?_; refine Run.regionW hC (fun K hK => ?_); refine wW ?_
  refine FunA.cW hP hT (c_spec_IsWord c w hcl) ?_
  rintro rs o ⟨rfl, rfl⟩
  refine wW ?_
  refine wE ?_; clear hK K
  refine Run.nq ?_; refine Run.cW ?_ ?_
  · intro hb
    have hb : wordB c w = false := by simpa using hb
    refine Run.R ?_
    refine Run.rW [4, 5] (hfin _ _ rfl rfl ?_)
    simp [nfW, hb]
  · intro hb
    have hb : wordB c w = true := by simpa using hb
    obtain ⟨h1, h2, h3⟩ := wordB_iff.1 hb
    refine Run.nq ?_; refine Run.regionW hC (fun K hK => ?_); refine wW ?_
    refine FunA.cW hP hT (c_spec_l8Normal c w h1 h3 (by omega)) ?_
    rintro rs o ⟨rfl, rfl⟩
    refine wW ?_
    refine wE ?_; clear hK K
    refine Run.rW [4, 5] (hfin _ _ rfl rfl ?_)
    simp [nfW, hb]
theorem c_spec_ConcatWords (a b : List Int) (ha : a.length ≤ 1048576) (hb : b.length ≤ 1048576) :
    FunA B 34 [.sl false .int a, .sl false .int b] (fun rs o => rs = [.own 0 0] ∧ o = [.arr .int (a ++ b) 0 true]) := by
  refine FunA.walk B_ok (fn := Tryz.f34) (fun vs w => Tryz.call34 vs w) Tryz.func34 rfl (by rw [Tryz.ntmps34]; simp) (fun C hC hP hT hΓ hbt hfn hpin hfin => ?_); have hX := BX; rw [← hΓ, ← hbt.1, ← hbt.2.1, ← hbt.2.2.1] at hX; rw [hT] at hX; rw [Tryz.ntmps34]; simp only [AW7, simprocAttr, hX]
  refine Run.R ?_
  refine Run.R ?_
  refine Run.le (Le.re (obs' := [.arr .int (a ++ b) 0 true]) hpin [0] [(4, true, .own 0 0)] rfl (by simp [leOs, leO_arr, oAt]) (by refine ⟨⟨_, rfl, ?_⟩, trivial⟩; simp [leAV, oAt, genO])) ?_
  simp only [frV_cons, frV_nil]
  refine Run.rW [4] (hfin _ _ rfl rfl ?_)
  exact ⟨rfl, rfl⟩
def idxN (w : List Int) (x : Int) : Nat → Int
  | 0 => -1
  | n + 1 => if idxN w x n < 0 then (if w.getD n 0 = x then (n : Int) else -1) else idxN w x n
theorem idxN_mem (w : List Int) (x : Int) : ∀ n, n ≤ w.length → (0 ≤ idxN w x n ↔ ∃ k, k < n ∧ w.getD k 0 = x)
  | 0, _ => by simp [idxN]
  | n + 1, h => by
    have ih := idxN_mem w x n (by omega)
    simp only [idxN]
    by_cases h0 : idxN w x n < 0
    · rw [if_pos h0]
      by_cases h1 : w.getD n 0 = x
      · rw [if_pos h1]
        constructor
        · intro _; exact ⟨n, by omega, h1⟩
        · intro _; omega
      · rw [if_neg h1]
        constructor
        · intro h; omega
        · rintro ⟨k, hk, hx⟩
          by_cases hkn : k = n
          · subst hkn; exact absurd hx h1
          · have := ih.2 ⟨k, by omega, hx⟩; omega
    · rw [if_neg h0]
      constructor
      · intro h2
        obtain ⟨k, hk, hx⟩ := ih.1 h2
        exact ⟨k, by omega, hx⟩
      · intro _; omega
theorem idxN_more (w : List Int) (x : Int) : ∀ n m, n ≤ m → 0 ≤ idxN w x n → idxN w x m = idxN w x n := by
  intro n m h h0
  induction m with
  | zero => have : n = 0 := by omega
            subst this; rfl
  | succ m ih =>
    by_cases hn : n = m + 1
    · subst hn; rfl
    · have := ih (by omega)
      simp only [idxN]
      rw [if_neg (by omega), this]
theorem c_slices_Index (w : List Int) (x : Int) (hl : w.length ≤ 1048576) : FunA B 203 [.sl false .int w, .int .i64 x] (fun rs o => rs = [.int .i64 (idxN w x w.length)] ∧ o = []) := by
  refine FunA.walk B_ok (fn := Tryz.f203) (fun vs w => Tryz.call203 vs w) Tryz.func203 rfl (by rw [Tryz.ntmps203]; simp) (fun C hC hP hT hΓ hbt hfn hpin hfin => ?_); have hX := BX; rw [← hΓ, ← hbt.1, ← hbt.2.1, ← hbt.2.2.1] at hX; rw [hT] at hX; rw [Tryz.ntmps203]; simp only [AW7, simprocAttr, hX]
  refine Run.R ?_
  refine Run.R ?_
  refine Run.loopI (X := Nat) (fun i => ⟨19, [(0, true, .v (.sl false .int w)), (1, true, .v (.int .i64 x)), (4, true, .v (.int .i64 0)), (7, true, .v (.int .i64 w.length)), (8, true, .v (.int .i64 i))], []⟩) (fun i => i ≤ w.length ∧ idxN w x i < 0) (fun i => w.length - i) 0 ⟨Nat.zero_le _, by simp [idxN]⟩ ?_ ?_
  · exact Le.sub (by simp only [AW7, simprocAttr]) (by simp only [AW7, simprocAttr]; try simp)
  rintro i ⟨hi, hf⟩ ih
  refine Run.R ?_
  refine Run.nq ?_; refine Run.cW ?_ ?_
  · intro h
    have h : i < w.length := by simpa using h
    refine Run.R ?_
    refine Run.R ?_
    have hs : idxN w x (i + 1) = if w.getD i 0 = x then (i : Int) else -1 := by simp only [idxN]; rw [if_pos hf]
    refine Run.nq ?_; refine Run.cW ?_ ?_
    · intro hx
      have hx : w.getD i 0 = x := by simp at hx; simpa using hx.symm
      refine Run.R ?_
      refine Run.rW [4] (hfin _ _ rfl rfl ?_)
      refine ⟨?_, rfl⟩
      rw [if_pos hx] at hs
      rw [idxN_more w x (i + 1) w.length h (by omega), hs]
    · intro hx
      have hx : ¬ w.getD i 0 = x := by simp at hx; intro k; apply hx; simpa using k.symm
      refine Run.RW ?_
      refine Run.le ?_ (ih (i + 1) ⟨h, by rw [hs, if_neg hx]; decide⟩ (by omega))
      exact Le.sub (by simp only [AW7, simprocAttr]) (by simp only [AW7, simprocAttr, Option.some.injEq, Prod.mk.injEq, Sl.v.injEq, AV.int.injEq, AV.own.injEq, AV.bool.injEq]; try (repeat' apply And.intro); all_goals omega)
  · intro h
    have h : i = w.length := by simp at h; omega
    subst h
    refine Run.exit rfl ?_; refine Run.nq ?_
    refine Run.R ?_
    refine Run.rW [4] (hfin _ _ rfl rfl ?_)
    refine ⟨?_, rfl⟩
    have : ∀ n, idxN w x n < 0 → idxN w x n = -1 := by
      intro n
      induction n with
      | zero => intro _; rfl
      | succ n ih =>
        intro h
        simp only [idxN] at h ⊢
        by_cases h0 : idxN w x n < 0
        · rw [if_pos h0] at h ⊢
          split at h
          · omega
          · rw [if_neg (by assumption)]
        · rw [if_neg h0] at h; omega
    rw [this _ hf]
theorem c_slices_Contains (w : List Int) (x : Int) (hl : w.length ≤ 1048576) : FunA B 194 [.sl false .int w, .int .i64 x] (fun rs o => rs = [.bool (decide (x ∈ w))] ∧ o = []) := by
  refine FunA.walk B_ok (fn := Tryz.f194) (fun vs w => Tryz.call194 vs w) Tryz.func194 rfl (by rw [Tryz.ntmps194]; simp) (fun C hC hP hT hΓ hbt hfn hpin hfin => ?_); have hX := BX; rw [← hΓ, ← hbt.1, ← hbt.2.1, ← hbt.2.2.1] at hX; rw [hT] at hX; rw [Tryz.ntmps194]; simp only [AW7, simprocAttr, hX]
  refine Run.R ?_
  refine Run.nq ?_; refine Run.regionW hC (fun K hK => ?_); refine wW ?_
  refine FunA.cW hP hT (c_slices_Index w x hl) ?_
  rintro rs o ⟨rfl, rfl⟩
  refine wW ?_
  refine wE ?_; clear hK K
  refine Run.rW [4] (hfin _ _ rfl rfl ?_)
  refine ⟨?_, rfl⟩
  have h := idxN_mem w x w.length (Nat.le_refl _)
  have e : (∃ k, k < w.length ∧ w.getD k 0 = x) ↔ x ∈ w := by
    constructor
    · rintro ⟨k, hk, rfl⟩; exact getD_mem hk
    · intro hx
      obtain ⟨k, hk, rfl⟩ := List.getElem_of_mem hx
      exact ⟨k, hk, by simp [hk]⟩
  rw [e] at h
  congr 2
  rw [Bool.eq_iff_iff]
  simpa using h
end Go.Proofs.YtaghdbbcadhjdaaGreatDoor
namespace Go.Proofs.YtaghdbbcadhjdaaGreatDoor
open Go Go.Aw Go.Cox Go.RowKit
end Go.Proofs.YtaghdbbcadhjdaaGreatDoor
namespace Go.Proofs.YtaghdbbcadhjdaaGreatDoor
open Go Go.Aw Go.Cox
theorem c_slices_Clone (w : List Int) (hl : w.length ≤ 1048576) : FunA B 193 [.sl false .int w] (fun rs o => ∃ nn, rs = [.own 0 0] ∧ o = [.arr .int w 0 nn]) := by
  refine FunA.walk B_ok (fn := Tryz.f193) (fun vs w => Tryz.call193 vs w) Tryz.func193 rfl (by rw [Tryz.ntmps193]; simp) (fun C hC hP hT hΓ hbt hfn hpin hfin => ?_); have hX := BX; rw [← hΓ, ← hbt.1, ← hbt.2.1, ← hbt.2.2.1] at hX; rw [hT] at hX; rw [Tryz.ntmps193]; simp only [AW7, simprocAttr, hX]
  refine Run.R ?_
  cases w with
  | nil =>
    refine Run.nilcase 0 rfl fun b => ?_
    refine Run.R ?_
    refine Run.nq ?_; refine Run.cW ?_ ?_
    · intro h
      refine Run.R ?_
      refine Run.nilown .int 2 rfl ?_
      refine Run.rW [2] (hfin _ _ rfl rfl ?_)
      exact ⟨false, rfl, rfl⟩
    · intro h
      refine Run.R ?_
      refine Run.le (Le.re (obs' := [.arr .int [] 0 true]) hpin [0] [(2, true, .own 0 0)] rfl (by simp [leOs, leO_arr, oAt]) (by refine ⟨⟨_, rfl, ?_⟩, trivial⟩; simp [leAV, oAt, genO])) ?_
      simp only [frV_cons, frV_nil]
      refine Run.rW [2] (hfin _ _ rfl rfl ?_)
      exact ⟨true, rfl, rfl⟩
  | cons x w =>
    refine Run.R ?_
    refine Run.nq ?_; refine Run.cW ?_ ?_
    · intro h
      simp at h
    · intro h
      refine Run.R ?_
      refine Run.le (Le.re (obs' := [.arr .int (x :: w) 0 true]) hpin [0] [(2, true, .own 0 0)] rfl (by simp [leOs, leO_arr, oAt]) (by refine ⟨⟨_, rfl, ?_⟩, trivial⟩; simp [leAV, oAt, genO])) ?_
      simp only [frV_cons, frV_nil]
      refine Run.rW [2] (hfin _ _ rfl rfl ?_)
      exact ⟨true, rfl, rfl⟩
end Go.Proofs.YtaghdbbcadhjdaaGreatDoor

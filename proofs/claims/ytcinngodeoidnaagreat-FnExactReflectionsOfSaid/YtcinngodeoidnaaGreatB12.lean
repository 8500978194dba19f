/- The sort's functions, found in this program. -/
import Derived.Test.YtcinngodeoidnaaGreatB11
import Derived.Test.YtcinngodeoidnaaGreatB10
set_option linter.unusedVariables false
set_option linter.unusedSimpArgs false
namespace Go.Proofs.YtcinngodeoidnaaGreat
open Go Go.Aw
def srtL_ren : Go.Shelf.Ren := ⟨fun | 6 => 90 | 15 => 135 | 14 => 134 | 28 => 170 | 29 => 171 | 20 => 162 | 21 => 163 | 22 => 164 | 23 => 165 | 24 => 166 | 25 => 167 | 26 => 168 | 27 => 169 | 46 => 186 | 47 => 187 | 48 => 188 | 49 => 189 | 50 => 190 | 57 => 206 | n => n, fun | 22 => 24 | 24 => 25 | 25 => 67 | 3 => 3 | 39 => 82 | 0 => 0 | 53 => 111 | 55 => 113 | 4 => 4 | 46 => 104 | 45 => 103 | 50 => 108 | 5 => 5 | 9 => 9 | 66 => 119 | 70 => 123 | 76 => 131 | 77 => 132 | n => n, fun n => n⟩
theorem srtL : SlLaysF.n6 Tryz.prog srtL_ren where
  mixed := by kernel_rfl
  f6 := ⟨Tryz.f90.name, by decide, Tryz.func90.trans (congrArg some (by kernel_rfl))⟩
  f14 := ⟨Tryz.f134.name, by decide, Tryz.func134.trans (congrArg some (by kernel_rfl))⟩
  f15 := Tryz.func135.trans (congrArg some (by kernel_rfl))
  f20 := ⟨Tryz.f162.name, by decide, Tryz.func162.trans (congrArg some (by kernel_rfl))⟩
  f21 := ⟨Tryz.f163.name, by decide, Tryz.func163.trans (congrArg some (by kernel_rfl))⟩
  f22 := ⟨Tryz.f164.name, by decide, Tryz.func164.trans (congrArg some (by kernel_rfl))⟩
  f23 := ⟨Tryz.f165.name, by decide, Tryz.func165.trans (congrArg some (by kernel_rfl))⟩
  f24 := ⟨Tryz.f166.name, by decide, Tryz.func166.trans (congrArg some (by kernel_rfl))⟩
  f25 := ⟨Tryz.f167.name, by decide, Tryz.func167.trans (congrArg some (by kernel_rfl))⟩
  f26 := ⟨Tryz.f168.name, by decide, Tryz.func168.trans (congrArg some (by kernel_rfl))⟩
  f27 := ⟨Tryz.f169.name, by decide, Tryz.func169.trans (congrArg some (by kernel_rfl))⟩
  f28 := Tryz.func170.trans (congrArg some (by kernel_rfl))
  f29 := Tryz.func171.trans (congrArg some (by kernel_rfl))
  f46 := ⟨Tryz.f186.name, by decide, Tryz.func186.trans (congrArg some (by kernel_rfl))⟩
  f47 := Tryz.func187.trans (congrArg some (by kernel_rfl))
  f48 := Tryz.func188.trans (congrArg some (by kernel_rfl))
  f49 := ⟨Tryz.f189.name, by decide, Tryz.func189.trans (congrArg some (by kernel_rfl))⟩
  f50 := ⟨Tryz.f190.name, by decide, Tryz.func190.trans (congrArg some (by kernel_rfl))⟩
  f57 := ⟨Tryz.f206.name, by decide, Tryz.func206.trans (congrArg some (by kernel_rfl))⟩
  t0 := Tryz.underlying0
  a0 := Tryz.isAgg0
  z0 := Tryz.sizeOf0
  v0 := Tryz.zeroValue0
  t3 := Tryz.underlying3
  a3 := Tryz.isAgg3
  z3 := Tryz.sizeOf3
  v3 := Tryz.zeroValue3
  t4 := Tryz.underlying4
  a4 := Tryz.isAgg4
  z4 := Tryz.sizeOf4
  v4 := Tryz.zeroValue4
  t5 := Tryz.underlying5
  a5 := Tryz.isAgg5
  z5 := Tryz.sizeOf5
  v5 := Tryz.zeroValue5
  t9 := Tryz.underlying9
  a9 := Tryz.isAgg9
  z9 := Tryz.sizeOf9
  v9 := Tryz.zeroValue9
  t22 := Tryz.underlying24
  a22 := Tryz.isAgg24
  z22 := Tryz.sizeOf24
  v22 := Tryz.zeroValue24
  a24 := Tryz.isAgg25
  z24 := Tryz.sizeOf25
  t25 := Tryz.underlying67
  a25 := Tryz.isAgg67
  z25 := Tryz.sizeOf67
  v25 := Tryz.zeroValue67
  t39 := Tryz.underlying82
  a39 := Tryz.isAgg82
  z39 := Tryz.sizeOf82
  v39 := Tryz.zeroValue82
  t45 := Tryz.underlying103
  a45 := Tryz.isAgg103
  z45 := Tryz.sizeOf103
  v45 := Tryz.zeroValue103
  t46 := Tryz.underlying104
  a46 := Tryz.isAgg104
  z46 := Tryz.sizeOf104
  v46 := Tryz.zeroValue104
  t50 := Tryz.underlying108
  a50 := Tryz.isAgg108
  z50 := Tryz.sizeOf108
  v50 := Tryz.zeroValue108
  t53 := Tryz.underlying111
  a53 := Tryz.isAgg111
  z53 := Tryz.sizeOf111
  v53 := Tryz.zeroValue111
  t55 := Tryz.underlying113
  a55 := Tryz.isAgg113
  z55 := Tryz.sizeOf113
  v55 := Tryz.zeroValue113
  t66 := Tryz.underlying119
  a66 := Tryz.isAgg119
  z66 := Tryz.sizeOf119
  v66 := Tryz.zeroValue119
  t70 := Tryz.underlying123
  a70 := Tryz.isAgg123
  z70 := Tryz.sizeOf123
  v70 := Tryz.zeroValue123
  t76 := Tryz.underlying131
  a76 := Tryz.isAgg131
  z76 := Tryz.sizeOf131
  v76 := Tryz.zeroValue131
  t77 := Tryz.underlying132
  a77 := Tryz.isAgg132
  z77 := Tryz.sizeOf132
  v77 := Tryz.zeroValue132
end Go.Proofs.YtcinngodeoidnaaGreat
namespace Go.Proofs.YtcinngodeoidnaaGreat
open Go Go.Aw
theorem cmpN_lt_trans (p q r : List Int) : ∀ n i, cmpN p q n i < 0 → cmpN q r n i < 0 → cmpN p r n i < 0
  | 0, i, h, _ => by simp [cmpN] at h
  | n + 1, i, h1, h2 => by
    have ih := cmpN_lt_trans p q r n (i + 1)
    simp only [cmpN] at h1 h2 ⊢
    split at h1 <;> split at h2 <;> (try split at h1) <;> (try split at h2) <;> (try split) <;> (try split) <;> first | omega | (exact ih h1 h2) | (exfalso; omega)
theorem cmpN_ge_trans (p q r : List Int) : ∀ n i, 0 ≤ cmpN p q n i → 0 ≤ cmpN q r n i → 0 ≤ cmpN p r n i
  | 0, i, _, _ => by simp [cmpN]
  | n + 1, i, h1, h2 => by
    have ih := cmpN_ge_trans p q r n (i + 1)
    simp only [cmpN] at h1 h2 ⊢
    split at h1 <;> split at h2 <;> (try split at h1) <;> (try split at h2) <;> (try split) <;> (try split) <;> first | omega | (exact ih h1 h2) | (exfalso; omega)
theorem cmpN_self (p : List Int) : ∀ n i, cmpN p p n i = 0
  | 0, i => rfl
  | n + 1, i => by simp only [cmpN]; rw [if_neg (by omega), if_neg (by omega)]; exact cmpN_self p n (i + 1)
theorem cmpW_self (p : List Int) : cmpW p p = 0 := by unfold cmpW; rw [if_neg (by omega), if_neg (by omega)]; exact cmpN_self p _ 0
theorem cmpW_lt_trans {p q r : List Int} (h1 : cmpW p q < 0) (h2 : cmpW q r < 0) : cmpW p r < 0 := by
  unfold cmpW at *
  have ih := cmpN_lt_trans p q r p.length 0
  split at h1
  · split at h2
    · rw [if_pos (by omega)]; omega
    · split at h2
      · omega
      · rw [if_pos (by omega)]; omega
  · split at h1
    · omega
    · have e : p.length = q.length := by omega
      split at h2
      · rw [if_pos (by omega)]; omega
      · split at h2
        · omega
        · rw [if_neg (by omega), if_neg (by omega)]; rw [← e] at h2; exact ih h1 h2
theorem cmpW_ge_trans {p q r : List Int} (h1 : 0 ≤ cmpW p q) (h2 : 0 ≤ cmpW q r) : 0 ≤ cmpW p r := by
  unfold cmpW at *
  have ih := cmpN_ge_trans p q r p.length 0
  split at h1
  · omega
  · split at h1
    · split at h2
      · omega
      · split at h2
        · rw [if_neg (by omega), if_pos (by omega)]; omega
        · rw [if_neg (by omega), if_pos (by omega)]; omega
    · have e : p.length = q.length := by omega
      split at h2
      · omega
      · split at h2
        · rw [if_neg (by omega), if_pos (by omega)]; omega
        · rw [if_neg (by omega), if_neg (by omega)]; rw [← e] at h2; exact ih h1 h2
theorem cmpW_swo : Go.Sort.SWO (ltOf cmpW) := by
  refine ⟨fun x => ?_, fun x y z h1 h2 => ?_, fun x y z h1 h2 => ?_⟩
  · unfold ltOf; rw [cmpW_self]; rfl
  · unfold ltOf at *
    rw [decide_eq_true_eq] at *
    exact cmpW_lt_trans h1 h2
  · unfold ltOf at *
    rw [decide_eq_false_iff_not] at *
    have := cmpW_ge_trans (p := x) (q := y) (r := z) (by omega) (by omega)
    omega
def cmpI (a b : Int) : Int := if a < b then -1 else if a > b then 1 else 0
theorem c_isNaN (a : Int) : FunA B 172 [.int .i64 a] (fun rs o => rs = [.bool false] ∧ o = []) := by
  refine FunA.walk B_ok (fn := Tryz.f172) (fun vs w => Tryz.call172 vs w) Tryz.func172 rfl (by rw [Tryz.ntmps172]; simp) (fun C hC hP hT hΓ hbt hfn hpin hfin => ?_); have hX := BX; rw [← hΓ, ← hbt.1, ← hbt.2.1, ← hbt.2.2.1, ← hbt.2.2.2.2] at hX; rw [hT] at hX; rw [Tryz.ntmps172]; simp only [AW7, simprocAttr, hX]
  refine Run.R ?_
  refine Run.R ?_
  refine Run.rW [2] (hfin _ _ rfl rfl ?_)
  exact ⟨by simp, rfl⟩
theorem c_cmpCompare (a b : Int) : FunA B 137 [.int .i64 a, .int .i64 b] (fun rs o => rs = [.int .i64 (cmpI a b)] ∧ o = []) := by
  refine FunA.walk B_ok (fn := Tryz.f137) (fun vs w => Tryz.call137 vs w) Tryz.func137 rfl (by rw [Tryz.ntmps137]; simp) (fun C hC hP hT hΓ hbt hfn hpin hfin => ?_); have hX := BX; rw [← hΓ, ← hbt.1, ← hbt.2.1, ← hbt.2.2.1, ← hbt.2.2.2.2] at hX; rw [hT] at hX; rw [Tryz.ntmps137]; simp only [AW7, simprocAttr, hX]
  refine Run.R ?_
  refine Run.nq ?_; refine Run.regionW hC (fun K hK => ?_); refine wW ?_
  refine FunA.cW hP hT (c_isNaN a) ?_
  rintro rs o ⟨rfl, rfl⟩
  refine wW ?_
  refine wE ?_; clear hK K
  refine Run.nq ?_; refine Run.regionW hC (fun K hK => ?_); refine wW ?_
  refine FunA.cW hP hT (c_isNaN b) ?_
  rintro rs o ⟨rfl, rfl⟩
  refine wW ?_
  refine wE ?_; clear hK K
  refine Run.R ?_
  refine Run.nq ?_; refine Run.cW ?_ ?_
  · intro h; cases h
  intro _
  refine Run.R ?_
  refine Run.nq ?_; refine Run.cW ?_ ?_
  · intro h; cases h
  intro _
  refine Run.R ?_
  refine Run.nq ?_; refine Run.cW ?_ ?_
  · intro h
    rw [decide_eq_true_eq] at h
    refine Run.R ?_
    refine Run.rW [4] (hfin _ _ rfl rfl ?_)
    unfold cmpI; rw [if_pos h]; exact ⟨rfl, rfl⟩
  intro h1
  rw [decide_eq_false_iff_not] at h1
  refine Run.R ?_
  refine Run.nq ?_; refine Run.cW ?_ ?_
  · intro h
    rw [decide_eq_true_eq] at h
    refine Run.R ?_
    refine Run.rW [4] (hfin _ _ rfl rfl ?_)
    unfold cmpI; rw [if_neg h1, if_pos h]; exact ⟨rfl, rfl⟩
  intro h2
  rw [decide_eq_false_iff_not] at h2
  refine Run.R ?_
  refine Run.rW [4] (hfin _ _ rfl rfl ?_)
  unfold cmpI; rw [if_neg h1, if_neg h2]; exact ⟨rfl, rfl⟩
theorem c_slicesCompare (p q : List Int) (hp : p.length ≤ 1048576) : FunA B 138 [.sl false .int p, .sl false .int q] (fun rs o => (∃ v, rs = [.int .i64 v] ∧ (p.length = q.length → v = cmpN p q p.length 0)) ∧ o = []) := by
  refine FunA.walk B_ok (fn := Tryz.f138) (fun vs w => Tryz.call138 vs w) Tryz.func138 rfl (by rw [Tryz.ntmps138]; simp) (fun C hC hP hT hΓ hbt hfn hpin hfin => ?_); have hX := BX; rw [← hΓ, ← hbt.1, ← hbt.2.1, ← hbt.2.2.1, ← hbt.2.2.2.2] at hX; rw [hT] at hX; rw [Tryz.ntmps138]; simp only [AW7, simprocAttr, hX]
  refine Run.R ?_
  refine Run.R ?_
  refine Run.loopI (X := Nat) (fun i => ⟨36, [(0, true, .v (.sl false .int (p))), (1, true, .v (.sl false .int (q))), (9, true, .v (.sl false .int (p))), (10, true, .v (.int .i64 (p.length))), (11, true, .v (.int .i64 (i)))], []⟩) (fun i => i ≤ p.length ∧ cmpN p q (p.length - i) i = cmpN p q p.length 0) (fun i => p.length - i) (0) (⟨by omega, rfl⟩) ?_ ?_
  · exact Le.sub (by first | rfl | simp) (by simp only [AW7, simprocAttr, hX]; try simp <;> try (first | rfl | exact ⟨rfl, rfl⟩ | exact ⟨rfl, rfl, rfl⟩))
  rintro i ⟨hi, he⟩ ih
  try simp only []
  refine Run.R ?_
  refine Run.nq ?_; refine Run.cW ?_ ?_
  rotate_left
  · intro h
    rw [decide_eq_false_iff_not] at h
    refine Run.exit rfl ?_; refine Run.nq ?_
    refine Run.R ?_
    rw [show p.length - i = 0 by omega] at he
    refine Run.nq ?_; refine Run.cW ?_ ?_
    · intro h2
      rw [decide_eq_true_eq] at h2
      refine Run.R ?_
      refine Run.rW [4] (hfin _ _ rfl rfl ?_)
      exact ⟨⟨_, rfl, fun e => by omega⟩, rfl⟩
    intro h2
    refine Run.R ?_
    refine Run.rW [4] (hfin _ _ rfl rfl ?_)
    exact ⟨⟨_, rfl, fun e => he⟩, rfl⟩
  intro h
  rw [decide_eq_true_eq] at h
  refine Run.R ?_
  refine Run.R ?_
  refine Run.nq ?_; refine Run.cW ?_ ?_
  · intro h2
    rw [decide_eq_true_eq] at h2
    refine Run.R ?_
    refine Run.rW [4] (hfin _ _ rfl rfl ?_)
    exact ⟨⟨_, rfl, fun e => by omega⟩, rfl⟩
  intro h2
  rw [decide_eq_false_iff_not] at h2
  have hs : p.length - i = (p.length - (i + 1)) + 1 := by omega
  rw [hs] at he
  simp only [cmpN] at he
  refine Run.R ?_
  refine Run.nq ?_; refine Run.regionW hC (fun K hK => ?_); refine wW ?_
  refine FunA.cW hP hT (c_cmpCompare (p.getD i 0) (q.getD i 0)) ?_
  rintro rs o ⟨rfl, rfl⟩
  refine wW ?_
  refine wE ?_; clear hK K
  refine Run.R ?_
  refine Run.nq ?_; refine Run.cW ?_ ?_
  · intro h3
    have h3 : cmpI (p.getD i 0) (q.getD i 0) ≠ 0 := by simpa using h3
    have e2 : cmpI (p.getD i 0) (q.getD i 0) = cmpN p q p.length 0 := by
      rw [← he]; unfold cmpI at *
      by_cases k1 : p.getD i 0 < q.getD i 0
      · rw [if_pos k1, if_pos k1]
      · by_cases k2 : p.getD i 0 > q.getD i 0
        · rw [if_neg k1, if_pos k2, if_neg k1, if_pos k2]
        · rw [if_neg k1, if_neg k2] at h3; omega
    refine Run.R ?_
    refine Run.rW [4] (hfin _ _ rfl rfl ?_)
    exact ⟨⟨_, rfl, fun _ => e2⟩, rfl⟩
  intro h3
  have h3 : cmpI (p.getD i 0) (q.getD i 0) = 0 := by simpa using h3
  have e3 : cmpN p q (p.length - (i + 1)) (i + 1) = cmpN p q p.length 0 := by
    rw [← he]; unfold cmpI at h3
    split at h3
    · omega
    · split at h3
      · omega
      · rename_i k1 k2; rw [if_neg k1, if_neg k2]
  refine Run.RW ?_
  refine Run.le ?_ (ih (i + 1) (⟨by omega, e3⟩) (by (try simp only [List.length_append, List.length_cons, List.length_nil]); omega))
  exact Le.sub (by rfl) (by simp only [AW7, simprocAttr]; try simp)
def orL : List Int → Int
  | [] => 0
  | x :: l => if x = 0 then orL l else x
theorem orL_drop (xs : List Int) {i : Nat} (h : i < xs.length) : orL (xs.drop i) = if xs.getD i 0 = 0 then orL (xs.drop (i + 1)) else xs.getD i 0 := by
  rw [List.drop_eq_getElem_cons h, getD_eq h]; rfl
theorem c_cmpOr (xs : List Int) (hl : xs.length ≤ 1048576) : FunA B 136 [.sl false .int xs] (fun rs o => rs = [.int .i64 (orL xs)] ∧ o = []) := by
  refine FunA.walk B_ok (fn := Tryz.f136) (fun vs w => Tryz.call136 vs w) Tryz.func136 rfl (by rw [Tryz.ntmps136]; simp) (fun C hC hP hT hΓ hbt hfn hpin hfin => ?_); have hX := BX; rw [← hΓ, ← hbt.1, ← hbt.2.1, ← hbt.2.2.1, ← hbt.2.2.2.2] at hX; rw [hT] at hX; rw [Tryz.ntmps136]; simp only [AW7, simprocAttr, hX]
  refine Run.R ?_
  refine Run.R ?_
  refine Run.R ?_
  refine Run.loopI (X := Nat) (fun i => ⟨18, [(0, true, .v (.sl false .int (xs))), (3, true, .v (.int .i64 (0))), (6, true, .v (.sl false .int (xs))), (7, true, .v (.int .i64 (xs.length))), (8, true, .v (.int .i64 (i)))], []⟩) (fun i => i ≤ xs.length ∧ orL (xs.drop i) = orL xs) (fun i => xs.length - i) (0) (⟨by omega, rfl⟩) ?_ ?_
  · exact Le.sub (by first | rfl | simp) (by simp only [AW7, simprocAttr, hX]; try simp <;> try (first | rfl | exact ⟨rfl, rfl⟩ | exact ⟨rfl, rfl, rfl⟩))
  rintro i ⟨hi, he⟩ ih
  try simp only []
  refine Run.R ?_
  refine Run.nq ?_; refine Run.cW ?_ ?_
  rotate_left
  · intro h
    rw [decide_eq_false_iff_not] at h
    refine Run.exit rfl ?_; refine Run.nq ?_
    refine Run.R ?_
    refine Run.rW [2] (hfin _ _ rfl rfl ?_)
    rw [List.drop_eq_nil_of_le (by omega)] at he
    exact ⟨by rw [← he]; rfl, rfl⟩
  intro h
  rw [decide_eq_true_eq] at h
  rw [orL_drop xs (by omega)] at he
  refine Run.R ?_
  refine Run.R ?_
  refine Run.nq ?_; refine Run.cW ?_ ?_
  · intro h2
    have h2 : xs.getD i 0 ≠ 0 := by simpa using h2
    rw [if_neg h2] at he
    refine Run.R ?_
    refine Run.rW [2] (hfin _ _ rfl rfl ?_)
    exact ⟨by rw [he], rfl⟩
  intro h2
  have h2 : xs.getD i 0 = 0 := by simpa using h2
  rw [if_pos h2] at he
  refine Run.RW ?_
  refine Run.le ?_ (ih (i + 1) (⟨by omega, he⟩) (by (try simp only [List.length_append, List.length_cons, List.length_nil]); omega))
  exact Le.sub (by rfl) (by simp only [AW7, simprocAttr]; try simp)
theorem c_impl_CompareWords (p q : List Int) (hp : p.length ≤ 1048576) : FunA B 91 [.sl false .int p, .sl false .int q] (fun rs o => rs = [.int .i64 (cmpW p q)] ∧ o = []) := by
  refine FunA.walk B_ok (fn := Tryz.f91) (fun vs w => Tryz.call91 vs w) Tryz.func91 rfl (by rw [Tryz.ntmps91]; simp) (fun C hC hP hT hΓ hbt hfn hpin hfin => ?_); have hX := BX; rw [← hΓ, ← hbt.1, ← hbt.2.1, ← hbt.2.2.1, ← hbt.2.2.2.2] at hX; rw [hT] at hX; rw [Tryz.ntmps91]; simp only [AW7, simprocAttr, hX]
  refine Run.R ?_
  refine Run.nq ?_; refine Run.regionW hC (fun K hK => ?_); refine wW ?_
  refine FunA.cW hP hT (c_cmpCompare (p.length : Int) (q.length : Int)) ?_
  rintro rs o ⟨rfl, rfl⟩
  refine wW ?_
  refine FunA.cW hP hT (c_slicesCompare p q hp) ?_
  rintro rs o ⟨⟨v, rfl, hv⟩, rfl⟩
  refine wW ?_
  refine FunA.cW hP hT (c_cmpOr [cmpI p.length q.length, v] (by simp)) ?_
  rintro rs o ⟨rfl, rfl⟩
  refine wW ?_
  refine wE ?_; clear hK K
  have e : orL [cmpI p.length q.length, v] = cmpW p q := by
    simp only [orL]
    unfold cmpI cmpW
    by_cases k1 : p.length < q.length
    · rw [if_pos (by omega : (p.length : Int) < q.length), if_pos k1]; rfl
    · by_cases k2 : p.length > q.length
      · rw [if_neg (by omega : ¬ (p.length : Int) < q.length), if_pos (by omega : (p.length : Int) > q.length), if_neg k1, if_pos k2]; rfl
      · rw [if_neg (by omega : ¬ (p.length : Int) < q.length), if_neg (by omega : ¬ (p.length : Int) > q.length), if_neg k1, if_neg k2, if_pos rfl, ← hv (by omega)]
        split
        · rename_i h; exact h.symm
        · rfl
  refine Run.reK hpin [4] [] (by decide) (by simp) ?_; simp only [AR, AW7, simprocAttr]
  refine Run.rW [4] (hfin _ _ rfl rfl ?_)
  rw [e]; exact ⟨rfl, rfl⟩
end Go.Proofs.YtcinngodeoidnaaGreat
namespace Go.Proofs.YtcinngodeoidnaaGreat
open Go Go.Aw Go.Cox
theorem rfl_none {c : List (List Int)} {r : List Int} (h : rflO c r = none) : rflB c r = false ∧ rflX c r = [] := by
  have : rflB c r = false := by simp [rflB, h]
  exact ⟨this, by simp [rflX, this]⟩
theorem rfl_off {c : List (List Int)} {r : List Int} (h : (wgtB c r && (sgnR r == 1)) = false) : rflO c r = none := by
  unfold rflO; rw [h]; rfl
theorem rfl_on {c : List (List Int)} {r : List Int} (h1 : wgtB c r = true) (h2 : sgnR r = 1) : rflO c r = rflP c 7 r [] := by
  unfold rflO; rw [h1, h2]; rfl
theorem c_impl_ReflectionOf (c : List (List Int)) (r : List Int) :
    FunA B 9 [.sl false (.row false) c, .sl false .int r] (fun rs o => rs = [.own 0 0, .bool (rflB c r)] ∧ o = [.arr .int (rflX c r) 0 true]) := by
  refine FunA.walk B_ok (fn := Tryz.f9) (fun vs w => Tryz.call9 vs w) Tryz.func9 rfl (by rw [Tryz.ntmps9]; simp) (fun C hC hP hT hΓ hbt hfn hpin hfin => ?_); have hX := BX; rw [← hΓ, ← hbt.1, ← hbt.2.1, ← hbt.2.2.1, ← hbt.2.2.2.2] at hX; rw [hT] at hX; rw [Tryz.ntmps9]; simp only [AW7, simprocAttr, hX]
  refine Run.R ?_
  refine Run.nq ?_; refine Run.regionW hC (fun K hK => ?_); refine wW ?_
  refine FunA.cW hP hT (c_impl_IsRootVector c r) ?_
  rintro rs o ⟨rfl, rfl⟩
  refine wW ?_
  refine .inl (FunA.callG hP hT (c_impl_RootSign r) (fun _ => rfl) (fun _ => by simp only [AW7, simprocAttr]) ?_)
  refine wW ?_
  refine wE ?_; clear hK K
  refine Run.nq ?_; refine Run.cW ?_ ?_
  · intro h
    have h : (wgtB c r && (sgnR r == 1)) = false := by
      revert h
      cases wgtB c r with
      | false => simp
      | true => intro h; simpa using h
    obtain ⟨e1, e2⟩ := rfl_none (rfl_off h)
    refine Run.R ?_
    refine Run.reK hpin [4, 5] [0] (by decide) (by simp) ?_; simp only [AR, AW7, simprocAttr]
    refine Run.rW [4, 5] (hfin _ _ rfl rfl ?_)
    rw [e1, e2]; exact ⟨rfl, rfl⟩
  intro h
  have hwb : wgtB c r = true := by revert h; cases wgtB c r <;> simp
  have hsg : sgnR r = 1 := by revert h; rw [hwb]; simp
  obtain ⟨hc, hw⟩ := wgtB_iff.1 hwb
  have hn := hc.2.1
  have hO := rfl_on hwb hsg
  refine Run.R ?_
  refine Run.reK hpin [0, 1, 6] [0] (by decide) (by simp) ?_; simp only [AR, AW7, simprocAttr]
  refine Run.loopI (X := List Int × List Int × Bool) (fun x => ⟨78, [(0, true, .v (.sl false (.row false) (c))), (1, true, .v (.sl x.2.2 .int x.1)), (6, true, .v (.own 0 0))], [.arr .int (x.2.1) 0 true]⟩) (fun x => Dn c x.1 ∧ x.2.1.length ≤ 7 ∧ letters c.length x.2.1 ∧ rflO c r = rflP c (7 - x.2.1.length) x.1 x.2.1) (fun x => 7 - x.2.1.length) ((r, [], false)) (⟨Dn.start hc hw hsg, by simp, letters_nil _, hO⟩) ?_ ?_
  · exact Le.sub (by first | rfl | simp) (by simp only [AW7, simprocAttr, hX]; try simp <;> try (first | rfl | exact ⟨rfl, rfl⟩ | exact ⟨rfl, rfl, rfl⟩))
  rintro ⟨s, p, f⟩ ⟨hD, hp7, hpl, hE⟩ ihO
  try simp only []
  simp only [] at hD hp7 hpl hE
  have hb := hD.bnd
  have hl := hD.len
  refine Run.nq ?_; refine Run.regionW hC (fun K hK => ?_); refine wW ?_
  refine FunA.cW hP hT (c_impl_HeightOf s (fun x hx => by have := hb x hx; omega) (by omega)) ?_
  rintro rs o ⟨rfl, rfl⟩
  refine wW ?_
  refine wE ?_; clear hK K
  refine Run.nq ?_; refine Run.cW ?_ ?_
  · intro h1
    have h1 : ¬ hgt s = 1 := by simpa using h1
    have hsi := Dn.notone (c := c) h1
    refine Run.R ?_
    refine Run.R ?_
    refine Run.reK hpin [0, 1, 6, 7, 28, 29] [0, 1] (by decide) (by simp) ?_; simp only [AR, AW7, simprocAttr]
    refine Run.join ⟨78, [(0, true, .v (.sl false (.row false) c)), (1, true, .v (.sl f .int s)), (6, true, .v (.own 0 0)), (7, true, .v (.own 1 0))], [.arr .int (lowP c s p) 0 true, .arr .int (lowR c s) 0 true]⟩ ?_ (fun cont => ?_)
    · cases hlo : lowI c s with
      | none =>
        simp only [lowP, lowR, hlo]
        refine Run.nq ?_; refine Run.regionW hC (fun K hK => ?_); refine wW ?_
        simp only [List.length_nil]
        refine .inl (CallG.off (.int .i64 0) ?_)
        refine wW ?_
        refine wE ?_; clear hK K
        refine Run.nq ?_; refine Run.cW ?_ ?_
        rotate_left
        · intro h; simp at h
        intro _
        obtain ⟨e1, e2⟩ := rfl_none (hE.trans (rflP_stop hsi hlo _ _))
        refine Run.R ?_
        refine Run.reK hpin [4, 5] [2] (by decide) (by simp) ?_; simp only [AR, AW7, simprocAttr]
        refine Run.rW [4, 5] (hfin _ _ rfl rfl ?_)
        rw [e1, e2]; exact ⟨rfl, rfl⟩
      | some i =>
        obtain ⟨hi, hlt, _⟩ := find_some' hlo
        have hml := mir_len c i s
        simp only [lowP, lowR, hlo]
        refine Run.nq ?_; refine Run.regionW hC (fun K hK => ?_); refine wW ?_
        refine .inl (FunA.callG hP hT (c_impl_RootSign (mirL c i s)) (fun _ => rfl) (fun _ => by simp only [AW7, simprocAttr]) ?_)
        refine wW ?_
        refine wE ?_; clear hK K
        refine Run.nq ?_; refine Run.cW ?_ ?_
        · intro h2
          have hz : rflO c r = none := by
            rw [hE]
            rcases Nat.lt_or_ge p.length 7 with hp | hp
            · rw [show 7 - p.length = (7 - (p.length + 1)) + 1 by omega, rflP_step hsi hlo, if_neg]
              intro h3
              rw [h3] at h2
              have e1 : (((mirL c i s).length : Int) == 0) = false := by simp only [beq_eq_false_iff_ne]; omega
              rw [e1] at h2
              simp at h2
              omega
            · rw [show 7 - p.length = 0 by omega, rflP_zero hsi]
          obtain ⟨e1, e2⟩ := rfl_none hz
          refine Run.R ?_
          refine Run.reK hpin [4, 5] [2] (by decide) (by simp) ?_; simp only [AR, AW7, simprocAttr]
          refine Run.rW [4, 5] (hfin _ _ rfl rfl ?_)
          rw [e1, e2]; exact ⟨rfl, rfl⟩
        · intro h2
          have h3 : sgnR (mirL c i s) = 1 ∧ p.length < 7 := by
            by_cases hs : sgnR (mirL c i s) = 1
            · refine ⟨hs, ?_⟩
              have e1 : (((mirL c i s).length : Int) == 0) = false := by simp only [beq_eq_false_iff_ne]; omega
              rw [hs, e1] at h2
              simp at h2
              omega
            · simp [hs] at h2
          refine Run.R ?_
          refine Run.letgoK 1 [0, 1, 6] rfl ?_; simp only [AL, frV_cons, frV_nil, AW7, simprocAttr]
          refine Run.reK hpin [0, 1, 6] [0] (by decide) (by simp) ?_; simp only [AR, AW7, simprocAttr]
          refine Run.le ?_ (ihO ((mirL c i s, p ++ [(i : Int)], true)) (⟨hD.next hlo h3.1, by simp; omega, letters_append.2 ⟨hpl, letters_cons.2 ⟨by omega, letters_nil _⟩⟩, by rw [hE, show 7 - p.length = (7 - (p ++ [(i : Int)]).length) + 1 by simp only [List.length_append, List.length_cons, List.length_nil]; omega, rflP_step hsi hlo, if_pos h3.1]⟩) (by (try simp only [List.length_append, List.length_cons, List.length_nil]); omega))
          exact Le.sub (by rfl) (by simp only [AW7, simprocAttr]; try simp)
    · refine Run.loopI (X := Nat) (fun k => ⟨78, [(0, true, .v (.sl false (.row false) (c))), (1, true, .v (.sl f .int s)), (6, true, .v (.own 0 0)), (7, true, .v (.own 1 0)), (28, true, .v (.int .i64 (c.length))), (29, true, .v (.int .i64 (k)))], [.arr .int (p) 0 true, .arr .int ([]) 0 true]⟩) (fun k => k ≤ c.length ∧ ∀ j, j < k → decide (hgt (mirL c j s) < hgt s) = false) (fun k => c.length - k) (0) (⟨Nat.zero_le _, by omega⟩) ?_ ?_
      · exact Le.sub (by first | rfl | simp) (by simp only [AW7, simprocAttr, hX]; try simp <;> try (first | rfl | exact ⟨rfl, rfl⟩ | exact ⟨rfl, rfl, rfl⟩))
      rintro k ⟨hk, hpre⟩ ih
      try simp only []
      refine Run.R ?_
      refine Run.nq ?_; refine Run.cW ?_ ?_
      · intro h2
        have h2 : k < c.length := by simpa using h2
        have hmb := mir_bnd hc (i := (k : Int)) (by omega) hl (M := 4000) (by omega) hb
        have hml := mir_len c k s
        refine Run.R ?_
        refine Run.nq ?_; refine Run.regionW hC (fun K hK => ?_); refine wW ?_
        refine FunA.cW hP hT (c_impl_mirrored c (k : Int) s hc (by omega) hl (fun x hx => by have := hb x hx; omega)) ?_
        rintro rs o ⟨rfl, rfl⟩
        refine wW ?_
        refine wE ?_; clear hK K
        refine Run.nq ?_; refine Run.regionW hC (fun K hK => ?_); refine wW ?_
        refine FunA.cW hP hT (c_impl_HeightOf (mirL c k s) (fun x hx => by have := hmb x hx; omega) (by omega)) ?_
        rintro rs o ⟨rfl, rfl⟩
        refine wW ?_
        refine FunA.cW hP hT (c_impl_HeightOf s (fun x hx => by have := hb x hx; omega) (by omega)) ?_
        rintro rs o ⟨rfl, rfl⟩
        refine wW ?_
        refine wE ?_; clear hK K
        refine Run.nq ?_; refine Run.cW ?_ ?_
        · intro h3
          have hlo : lowI c s = some k := find_some h2 h3 hpre
          refine Run.R ?_
          refine Run.R ?_
          refine Run.exit rfl ?_
          refine Run.reK hpin [0, 1, 6, 7] [0, 2] (by decide) (by simp) ?_; simp only [AR, AW7, simprocAttr]
          refine Run.le ?_ cont
          simp only [lowP, lowR, hlo]
          exact Le.sub (by rfl) (by simp only [AW7, simprocAttr]; try simp)
        · intro h3
          have hp2 : ∀ j, j < k + 1 → decide (hgt (mirL c j s) < hgt s) = false := fun j hj => by
            by_cases hjk : j = k
            · subst hjk; exact h3
            · exact hpre j (by omega)
          refine Run.reK hpin [0, 1, 6, 7, 28, 29] [0, 1] (by decide) (by simp) ?_; simp only [AR, AW7, simprocAttr]
          refine Run.RW ?_
          refine Run.le ?_ (ih (k + 1) (⟨by omega, hp2⟩) (by (try simp only [List.length_append, List.length_cons, List.length_nil]); omega))
          exact Le.sub (by rfl) (by simp only [AW7, simprocAttr]; try simp)
      · intro h2
        have h2 : k = c.length := by simp at h2; omega
        subst h2
        have hlo : lowI c s = none := find_none hpre
        refine Run.exit rfl ?_
        refine Run.le ?_ cont
        simp only [lowP, lowR, hlo]
        exact Le.sub (by rfl) (by simp only [AW7, simprocAttr]; try simp)
  · intro h1
    have h1 : hgt s = 1 := by simpa using h1
    obtain ⟨i, hi, hr, hsi⟩ := hD.one h1
    have hz := hE.trans (rflP_sim hsi _ _)
    have hlw : letters c.length (p ++ [(i : Int)] ++ p.reverse) := letters_append.2 ⟨letters_append.2 ⟨hpl, letters_cons.2 ⟨by omega, letters_nil _⟩⟩, letters_reverse hpl⟩
    have hll : (p ++ [(i : Int)] ++ p.reverse).length ≤ 31 := by simp; omega
    obtain ⟨a1, a2, a3, a4, a5⟩ := red_spec hc hlw hll
    have hix : idxN s 1 s.length = i := by rw [hr]; exact idx_sim c.length i hi
    refine Run.exit rfl ?_; refine Run.nq ?_
    refine Run.nq ?_; refine Run.regionW hC (fun K hK => ?_); refine wW ?_
    refine FunA.cW hP hT (c_slices_Index s 1 (by omega)) ?_
    rintro rs o ⟨rfl, rfl⟩
    rw [hix]
    refine wW ?_
    refine FunA.cW hP hT (c_impl_ReverseWord p (by omega)) ?_
    rintro rs o ⟨rfl, rfl⟩
    refine wW ?_
    refine FunA.cW hP hT (c_slices_Concat [p, [(i : Int)], p.reverse] (by simp [sumL]; omega) (by simp)) ?_
    rintro rs o ⟨nn, rfl, rfl⟩
    refine wW ?_
    refine wE ?_; clear hK K
    rw [show ([p, [(i : Int)], p.reverse] : List (List Int)).flatten = p ++ [(i : Int)] ++ p.reverse by simp]
    refine Run.nq ?_; refine Run.regionW hC (fun K hK => ?_); refine wW ?_
    refine FunA.cW hP hT (c_impl_reduced c (p ++ [(i : Int)] ++ p.reverse) hc hlw hll) ?_
    rintro rs o ⟨rfl, rfl⟩
    refine wW ?_
    refine wE ?_; clear hK K
    refine Run.R ?_
    refine Run.nq ?_; refine Run.cW ?_ ?_
    · intro h2
      have h2 : ¬ (redL c (p ++ [(i : Int)] ++ p.reverse)).length ≤ 15 := by simp only [decide_eq_true_eq] at h2; omega
      have e1 : rflB c r = false := by unfold rflB; rw [hz]; show (true && decide ((redL c (p ++ [(i : Int)] ++ p.reverse)).length ≤ 15)) = false; rw [decide_eq_false h2]; rfl
      have e2 : rflX c r = [] := by unfold rflX; rw [e1]; rfl
      refine Run.R ?_
      refine Run.reK hpin [4, 5] [6] (by decide) (by simp) ?_; simp only [AR, AW7, simprocAttr]
      refine Run.rW [4, 5] (hfin _ _ rfl rfl ?_)
      rw [e1, e2]; exact ⟨rfl, rfl⟩
    · intro h2
      have h2 : (redL c (p ++ [(i : Int)] ++ p.reverse)).length ≤ 15 := by simp only [decide_eq_false_iff_not] at h2; omega
      have e1 : rflB c r = true := by unfold rflB; rw [hz]; show (true && decide ((redL c (p ++ [(i : Int)] ++ p.reverse)).length ≤ 15)) = true; rw [decide_eq_true h2]; rfl
      have e2 : rflX c r = redL c (p ++ [(i : Int)] ++ p.reverse) := by unfold rflX; rw [e1, hz]; rfl
      refine Run.R ?_
      refine Run.reK hpin [4, 5] [5] (by decide) (by simp) ?_; simp only [AR, AW7, simprocAttr]
      refine Run.rW [4, 5] (hfin _ _ rfl rfl ?_)
      rw [e1, e2]; exact ⟨rfl, rfl⟩
end Go.Proofs.YtcinngodeoidnaaGreat
namespace Go.Proofs.YtcinngodeoidnaaGreat
open Go Go.Aw Go.Cox
theorem Run.joinP {C : Ctx} {i j : Item} {k : List Item} {σ : St} (σ' : St) (p : Prop) (h1 : p → Run C k σ') (h2 : (p → Run C k σ') → Run C (i :: j :: k) σ) : Run C (i :: j :: k) σ := h2 h1
theorem c_spec_ReflectionOf (c : List (List Int)) (r : List Int) :
    FunA B 10 [.sl false (.row false) c, .sl false .int r] (fun rs o => rs = [.own 0 0, .bool (rflB c r)] ∧ o = [.arr .int (rflX c r) 0 true]) := by
  refine FunA.walk B_ok (fn := Tryz.f10) (fun vs w => Tryz.call10 vs w) Tryz.func10 rfl (by rw [Tryz.ntmps10]; simp) (fun C hC hP hT hΓ hbt hfn hpin hfin => ?_); have hX := BX; rw [← hΓ, ← hbt.1, ← hbt.2.1, ← hbt.2.2.1, ← hbt.2.2.2.2] at hX; rw [hT] at hX; rw [Tryz.ntmps10]; simp only [AW7, simprocAttr, hX]
  refine Run.R ?_
  refine Run.nq ?_; refine Run.regionW hC (fun K hK => ?_); refine wW ?_
  refine FunA.cW hP hT (c_spec_IsRootVector c r) ?_
  rintro rs o ⟨rfl, rfl⟩
  refine wW ?_
  refine .inl (FunA.callG hP hT (c_spec_RootSign r) (fun _ => rfl) (fun _ => by simp only [AW7, simprocAttr]) ?_)
  refine wW ?_
  refine wE ?_; clear hK K
  refine Run.nq ?_; refine Run.cW ?_ ?_
  · intro h
    have h : (wgtB c r && (sgnR r == 1)) = false := by
      revert h
      cases wgtB c r with
      | false => simp
      | true =>
        intro h
        have h : sgnR r ≤ 0 := by simpa using h
        have := sgnR_pos.1 h
        simpa using this
    obtain ⟨e1, e2⟩ := rfl_none (rfl_off h)
    refine Run.R ?_
    refine Run.reK hpin [4, 5] [0] (by decide) (by simp) ?_; simp only [AR, AW7, simprocAttr]
    refine Run.rW [4, 5] (hfin _ _ rfl rfl ?_)
    rw [e1, e2]; exact ⟨rfl, rfl⟩
  intro h
  have hwb : wgtB c r = true := by revert h; cases wgtB c r <;> simp
  have hsg : sgnR r = 1 := by
    revert h; rw [hwb]; intro h
    have h : ¬ sgnR r ≤ 0 := by simpa using h
    cases Int.decEq (sgnR r) 1 with
    | isTrue h1 => exact h1
    | isFalse h1 => exact absurd (sgnR_pos.2 h1) h
  obtain ⟨hc, hw⟩ := wgtB_iff.1 hwb
  have hn := hc.2.1
  have hO := rfl_on hwb hsg
  have hrl := hw.1
  refine Run.R ?_
  refine Run.R ?_
  refine Run.R ?_
  refine Run.reK hpin [0, 1, 6, 7, 8] [0, 1] (by decide) (by simp) ?_; simp only [AR, AW7, simprocAttr]
  refine Run.loopI (X := List Int × List Int) (fun x => ⟨92, [(0, true, .v (.sl false (.row false) (c))), (1, true, .v (.sl false .int (r))), (6, true, .v (.own 0 0)), (7, true, .v (.own 1 0)), (8, true, .v (.int .i64 (x.2.length)))], [.arr .int (x.1) 0 true, .arr .int (x.2) 0 true]⟩) (fun x => Dn c x.1 ∧ x.2.length ≤ 8 ∧ letters c.length x.2 ∧ (x.2.length ≤ 7 → rflO c r = rflP c (7 - x.2.length) x.1 x.2) ∧ (x.2.length = 8 → rflO c r = none)) (fun x => 8 - x.2.length) ((r, [])) (⟨Dn.start hc hw hsg, by simp, letters_nil _, fun _ => hO, fun h => by simp at h⟩) ?_ ?_
  · exact Le.sub (by first | rfl | simp) (by simp only [AW7, simprocAttr, hX]; try simp <;> try (first | rfl | exact ⟨rfl, rfl⟩ | exact ⟨rfl, rfl, rfl⟩))
  rintro ⟨s, p⟩ ⟨hD, hp8, hpl, hE, hZ⟩ ihO
  try simp only []
  simp only [] at hD hp8 hpl hE hZ
  have hb := hD.bnd
  have hl := hD.len
  refine Run.R ?_
  refine Run.nq ?_; refine Run.cW ?_ ?_
  rotate_left
  · intro h1
    have h1 : p.length = 8 := by simp at h1; omega
    obtain ⟨e1, e2⟩ := rfl_none (hZ h1)
    refine Run.exit rfl ?_; refine Run.nq ?_
    refine Run.R ?_
    refine Run.reK hpin [4, 5] [2] (by decide) (by simp) ?_; simp only [AR, AW7, simprocAttr]
    refine Run.rW [4, 5] (hfin _ _ rfl rfl ?_)
    rw [e1, e2]; exact ⟨rfl, rfl⟩
  intro h1
  have h1 : p.length ≤ 7 := by simp at h1; omega
  have hE := hE h1
  clear hZ
  refine Run.R ?_
  refine Run.reK hpin [0, 1, 6, 7, 8, 9] [0, 1] (by decide) (by simp) ?_; simp only [AR, AW7, simprocAttr]
  refine Run.joinP ⟨92, [(0, true, .v (.sl false (.row false) c)), (1, true, .v (.sl false .int r)), (6, true, .v (.own 0 0)), (7, true, .v (.own 1 0)), (8, true, .v (.int .i64 p.length))], [.arr .int s 0 true, .arr .int p 0 true]⟩ (simI c s = none) ?_ (fun cont => ?_)
  rotate_left
  · refine Run.loopI (X := Nat) (fun k => ⟨92, [(0, true, .v (.sl false (.row false) (c))), (1, true, .v (.sl false .int (r))), (6, true, .v (.own 0 0)), (7, true, .v (.own 1 0)), (8, true, .v (.int .i64 (p.length))), (9, true, .v (.int .i64 (k)))], [.arr .int (s) 0 true, .arr .int (p) 0 true]⟩) (fun k => k ≤ c.length ∧ ∀ j, j < k → (s == simL c.length j) = false) (fun k => c.length - k) (0) (⟨Nat.zero_le _, by omega⟩) ?_ ?_
    · exact Le.sub (by first | rfl | simp) (by simp only [AW7, simprocAttr, hX]; try simp <;> try (first | rfl | exact ⟨rfl, rfl⟩ | exact ⟨rfl, rfl, rfl⟩))
    rintro k ⟨hk, hpre⟩ ih
    try simp only []
    refine Run.R ?_
    refine Run.nq ?_; refine Run.cW ?_ ?_
    · intro h2
      have h2 : k < c.length := by simpa using h2
      have hsl := simL_len c.length k
      refine Run.nq ?_; refine Run.regionW hC (fun K hK => ?_); refine wW ?_
      refine FunA.cW hP hT (c_spec_SimpleRoot c (k : Int) hc (by omega)) ?_
      rintro rs o ⟨rfl, rfl⟩
      refine wW ?_
      refine FunA.cW hP hT (c_spec_EqualWords s (simL c.length k) (by omega)) ?_
      rintro rs o ⟨rfl, rfl⟩
      refine wW ?_
      refine wE ?_; clear hK K
      refine Run.nq ?_; refine Run.cW ?_ ?_
      · intro h3
        have hsi : simI c s = some k := find_some h2 h3 hpre
        have hz := hE.trans (rflP_sim hsi _ _)
        have hlw : letters c.length (p ++ [(k : Int)] ++ p.reverse) := letters_append.2 ⟨letters_append.2 ⟨hpl, letters_cons.2 ⟨by omega, letters_nil _⟩⟩, letters_reverse hpl⟩
        have hll : (p ++ [(k : Int)] ++ p.reverse).length ≤ 31 := by simp; omega
        refine Run.nq ?_; refine Run.regionW hC (fun K hK => ?_); refine wW ?_
        refine FunA.cW hP hT (c_spec_ConcatWords p [(k : Int)] (by omega) (by simp)) ?_
        rintro rs o ⟨rfl, rfl⟩
        refine wW ?_
        refine FunA.cW hP hT (c_spec_ReverseWord p (by omega)) ?_
        rintro rs o ⟨rfl, rfl⟩
        refine wW ?_
        refine FunA.cW hP hT (c_spec_ConcatWords (p ++ [(k : Int)]) p.reverse (by simp; omega) (by simp; omega)) ?_
        rintro rs o ⟨rfl, rfl⟩
        refine wW ?_
        refine wE ?_; clear hK K
        refine Run.nq ?_; refine Run.regionW hC (fun K hK => ?_); refine wW ?_
        refine FunA.cW hP hT (c_spec_l9Fit c (p ++ [(k : Int)] ++ p.reverse) hc hlw hll) ?_
        rintro rs o ⟨rfl, rfl⟩
        refine wW ?_
        refine wE ?_; clear hK K
        refine Run.R ?_
        have e1 : rflB c r = decide ((redL c (p ++ [(k : Int)] ++ p.reverse)).length ≤ 15) := by unfold rflB; rw [hz]; rfl
        have e2 : rflX c r = if (redL c (p ++ [(k : Int)] ++ p.reverse)).length ≤ 15 then redL c (p ++ [(k : Int)] ++ p.reverse) else [] := by
          unfold rflX; rw [e1, hz]; simp only [decide_eq_true_eq]; rfl
        refine Run.reK hpin [4, 5] [7] (by decide) (by simp) ?_; simp only [AR, AW7, simprocAttr]
        refine Run.rW [4, 5] (hfin _ _ rfl rfl ?_)
        rw [e1, e2]; exact ⟨rfl, rfl⟩
      · intro h3
        have hp2 : ∀ j, j < k + 1 → (s == simL c.length j) = false := fun j hj => by
          by_cases hjk : j = k
          · subst hjk; exact h3
          · exact hpre j (by omega)
        refine Run.reK hpin [0, 1, 6, 7, 8, 9] [0, 1] (by decide) (by simp) ?_; simp only [AR, AW7, simprocAttr]
        refine Run.RW ?_
        refine Run.le ?_ (ih (k + 1) (⟨by omega, hp2⟩) (by (try simp only [List.length_append, List.length_cons, List.length_nil]); omega))
        exact Le.sub (by rfl) (by simp only [AW7, simprocAttr]; try simp)
    · intro h2
      have h2 : k = c.length := by simp at h2; omega
      subst h2
      refine Run.exit rfl ?_
      refine Run.le ?_ (cont (find_none hpre))
      exact Le.sub (by rfl) (by simp only [AW7, simprocAttr]; try simp)
  intro hsi
  refine Run.R ?_
  refine Run.joinP ⟨92, [(0, true, .v (.sl false (.row false) c)), (1, true, .v (.sl false .int r)), (6, true, .v (.own 0 0)), (7, true, .v (.own 1 0)), (8, true, .v (.int .i64 p.length)), (13, true, .v (.int .i64 ((lowI c s).getD c.length : Nat)))], [.arr .int s 0 true, .arr .int p 0 true]⟩ True ?_ (fun cont => ?_)
  rotate_left
  · refine Run.loopI (X := Nat) (fun k => ⟨92, [(0, true, .v (.sl false (.row false) (c))), (1, true, .v (.sl false .int (r))), (6, true, .v (.own 0 0)), (7, true, .v (.own 1 0)), (8, true, .v (.int .i64 (p.length))), (13, true, .v (.int .i64 (k)))], [.arr .int (s) 0 true, .arr .int (p) 0 true]⟩) (fun k => k ≤ c.length ∧ ∀ j, j < k → decide (hgt (mirL c j s) < hgt s) = false) (fun k => c.length - k) (0) (⟨Nat.zero_le _, by omega⟩) ?_ ?_
    · exact Le.sub (by first | rfl | simp) (by simp only [AW7, simprocAttr, hX]; try simp <;> try (first | rfl | exact ⟨rfl, rfl⟩ | exact ⟨rfl, rfl, rfl⟩))
    rintro k ⟨hk, hpre⟩ ih
    try simp only []
    by_cases h2 : k < c.length
    · have h2' : decide ((k : Int) < c.length) = true := by rw [decide_eq_true_eq]; omega
      have hmb := mir_bnd hc (i := (k : Int)) (by omega) hl (M := 4000) (by omega) hb
      have hml := mir_len c k s
      refine Run.nq ?_; refine Run.regionW hC (fun K hK => ?_); refine wW ?_
      simp only [h2']
      refine .inr ⟨rfl, ?_⟩
      refine FunA.cW hP hT (c_spec_l7Reflect c (k : Int) s hc (by omega) hl (fun x hx => by have := hb x hx; omega)) ?_
      rintro rs o ⟨rfl, rfl⟩
      refine wW ?_
      refine .inr ⟨rfl, ?_⟩
      refine FunA.cW hP hT (c_spec_HeightOf (mirL c k s) (fun x hx => by have := hmb x hx; omega) (by omega)) ?_
      rintro rs o ⟨rfl, rfl⟩
      refine wW ?_
      refine .inr ⟨rfl, ?_⟩
      refine FunA.cW hP hT (c_spec_HeightOf s (fun x hx => by have := hb x hx; omega) (by omega)) ?_
      rintro rs o ⟨rfl, rfl⟩
      refine wW ?_
      refine wE ?_; clear hK K
      refine Run.nq ?_; refine Run.cW ?_ ?_
      · intro h3
        have h3 : decide (hgt (mirL c k s) < hgt s) = false := by simp at h3; simp; omega
        have hp2 : ∀ j, j < k + 1 → decide (hgt (mirL c j s) < hgt s) = false := fun j hj => by
          by_cases hjk : j = k
          · subst hjk; exact h3
          · exact hpre j (by omega)
        refine Run.reK hpin [0, 1, 6, 7, 8, 13] [0, 1] (by decide) (by simp) ?_; simp only [AR, AW7, simprocAttr]
        refine Run.RW ?_
        refine Run.le ?_ (ih (k + 1) (⟨by omega, hp2⟩) (by (try simp only [List.length_append, List.length_cons, List.length_nil]); omega))
        exact Le.sub (by rfl) (by simp only [AW7, simprocAttr]; try simp)
      · intro h3
        have h3 : decide (hgt (mirL c k s) < hgt s) = true := by simp at h3; simp; omega
        have hlo : lowI c s = some k := find_some h2 h3 hpre
        refine Run.reK hpin [0, 1, 6, 7, 8, 13] [0, 1] (by decide) (by simp) ?_; simp only [AR, AW7, simprocAttr]
        refine Run.exit rfl ?_
        refine Run.le ?_ (cont trivial)
        rw [hlo]
        exact Le.sub (by rfl) (by simp only [AW7, simprocAttr]; try simp)
    · have h2' : decide ((k : Int) < c.length) = false := by rw [decide_eq_false_iff_not]; omega
      have hkk : k = c.length := by omega
      subst hkk
      have hlo : lowI c s = none := find_none hpre
      refine Run.nq ?_; refine Run.regionW hC (fun K hK => ?_); refine wW ?_
      simp only [h2']
      refine .inl (CallG.off (.sl false .int []) ?_)
      refine wW ?_
      refine .inl (CallG.off (.int .i64 0) ?_)
      refine wW ?_
      refine .inl (CallG.off (.int .i64 0) ?_)
      refine wW ?_
      refine wE ?_; clear hK K
      refine Run.nq ?_; refine Run.cW ?_ ?_
      · intro h; cases h
      intro _
      refine Run.exit rfl ?_
      refine Run.le ?_ (cont trivial)
      rw [hlo]
      exact Le.sub (by rfl) (by simp only [AW7, simprocAttr]; try simp)
  intro _
  refine Run.R ?_
  refine Run.nq ?_; refine Run.cW ?_ ?_
  · intro h2
    have h2 : (lowI c s).getD c.length = c.length := by simp at h2; omega
    have hlo : lowI c s = none := by
      cases hlo : lowI c s with
      | none => rfl
      | some i => have := (find_some' hlo).1; rw [hlo] at h2; simp at h2; omega
    obtain ⟨e1, e2⟩ := rfl_none (hE.trans (rflP_stop hsi hlo _ _))
    refine Run.R ?_
    refine Run.reK hpin [4, 5] [2] (by decide) (by simp) ?_; simp only [AR, AW7, simprocAttr]
    refine Run.rW [4, 5] (hfin _ _ rfl rfl ?_)
    rw [e1, e2]; exact ⟨rfl, rfl⟩
  intro h2
  have h2 : ¬ (lowI c s).getD c.length = c.length := by simp at h2; omega
  obtain ⟨i, hlo⟩ : ∃ i, lowI c s = some i := by
    cases hlo : lowI c s with
    | some i => exact ⟨i, rfl⟩
    | none => rw [hlo] at h2; exact absurd rfl h2
  obtain ⟨hi, hlt, _⟩ := find_some' hlo
  have hml := mir_len c i s
  rw [hlo]
  simp only [Option.getD_some]
  refine Run.nq ?_; refine Run.regionW hC (fun K hK => ?_); refine wW ?_
  refine FunA.cW hP hT (c_spec_l7Reflect c (i : Int) s hc (by omega) hl (fun x hx => by have := hb x hx; omega)) ?_
  rintro rs o ⟨rfl, rfl⟩
  refine wW ?_
  refine wE ?_; clear hK K
  refine Run.R ?_
  refine Run.nq ?_; refine Run.regionW hC (fun K hK => ?_); refine wW ?_
  refine FunA.cW hP hT (c_spec_RootSign (mirL c i s)) ?_
  rintro rs o ⟨rfl, rfl⟩
  refine wW ?_
  refine wE ?_; clear hK K
  refine Run.nq ?_; refine Run.cW ?_ ?_
  · intro h3
    have h3 : ¬ sgnR (mirL c i s) = 1 := sgnR_pos.1 (by simpa using h3)
    have hz : rflO c r = none := by
      rw [hE]
      rcases Nat.lt_or_ge p.length 7 with hp | hp
      · rw [show 7 - p.length = (7 - (p.length + 1)) + 1 by omega, rflP_step hsi hlo, if_neg h3]
      · rw [show 7 - p.length = 0 by omega, rflP_zero hsi]
    obtain ⟨e1, e2⟩ := rfl_none hz
    refine Run.R ?_
    refine Run.reK hpin [4, 5] [4] (by decide) (by simp) ?_; simp only [AR, AW7, simprocAttr]
    refine Run.rW [4, 5] (hfin _ _ rfl rfl ?_)
    rw [e1, e2]; exact ⟨rfl, rfl⟩
  intro h3
  have h3 : sgnR (mirL c i s) = 1 := by
    cases Int.decEq (sgnR (mirL c i s)) 1 with
    | isTrue h1 => exact h1
    | isFalse h1 => have := sgnR_pos.2 h1; simp at h3; omega
  refine Run.reK hpin [0, 1, 6, 7, 8] [2, 1] (by decide) (by simp) ?_; simp only [AR, AW7, simprocAttr]
  refine Run.RW ?_
  have hl1 : (p ++ [(i : Int)]).length = p.length + 1 := by simp
  refine Run.le ?_ (ihO ((mirL c i s, p ++ [(i : Int)])) (⟨hD.next hlo h3, by simp only []; omega, letters_append.2 ⟨hpl, letters_cons.2 ⟨by omega, letters_nil _⟩⟩, fun h7 => by rw [hE, show 7 - p.length = (7 - (p ++ [(i : Int)]).length) + 1 by simp only [] at h7; omega, rflP_step hsi hlo, if_pos h3], fun h8 => by rw [hE, show 7 - p.length = 0 by simp only [] at h8; omega, rflP_zero hsi]⟩) (by (try simp only [List.length_append, List.length_cons, List.length_nil]); omega))
  exact Le.sub (by first | rfl | (simp only [hl1]; done) | (rw [hl1]; rfl)) (by simp only [AW7, simprocAttr]; try simp)
end Go.Proofs.YtcinngodeoidnaaGreat
namespace Go.Proofs.YtcinngodeoidnaaGreat
open Go Go.Aw Go.Cox
def actR (c : List (List Int)) (w r : List Int) : List Int := w.foldr (mirL c) r
theorem actR_len (c : List (List Int)) (r : List Int) : ∀ w, (actR c w r).length = r.length
  | [] => rfl
  | i :: w => by show (mirL c i (actR c w r)).length = _; rw [mir_len, actR_len c r w]
end Go.Proofs.YtcinngodeoidnaaGreat
namespace Go.Proofs.YtcinngodeoidnaaGreat
open Go Go.Aw Go.Cox
end Go.Proofs.YtcinngodeoidnaaGreat
namespace Go.Proofs.YtcinngodeoidnaaGreat
open Go Go.Aw
def putS (w : List Int) : Bool → List (List Int) → List (List Int)
  | b, [] => if b then [] else [w]
  | b, x :: l => if cmpW w x < 0 ∧ b = false then w :: x :: putS w true l else x :: putS w (b || cmpW w x == 0) l
def rw2 (ys : List (Nat × List Int)) : List (List Int) := ys.map (·.2)
def lb1 (ys : List (Nat × List Int)) : List Nat := ys.map (·.1)
theorem rw2_app (a b : List (Nat × List Int)) : rw2 (a ++ b) = rw2 a ++ rw2 b := by simp [rw2]
theorem lb1_app (a b : List (Nat × List Int)) : lb1 (a ++ b) = lb1 a ++ lb1 b := by simp [lb1]
theorem drop_cons' (ys : List (Nat × List Int)) {i : Nat} (h : i < ys.length) : ys.drop i = ys.getD i (0, []) :: ys.drop (i + 1) := by
  rw [List.drop_eq_getElem_cons h, getD_eq h]
theorem lb_step {zs ys : List (Nat × List Int)} {i : Nat} (h : i < ys.length) (hn : (lb1 zs ++ lb1 (ys.drop i)).Nodup) : (lb1 (zs ++ [((ys.getD i (0, [])).1, (ys.getD i (0, [])).2)]) ++ lb1 (ys.drop (i + 1))).Nodup := by
  rw [drop_cons' ys h] at hn
  have e : lb1 (ys.getD i (0, []) :: ys.drop (i + 1)) = [(ys.getD i (0, [])).1] ++ lb1 (ys.drop (i + 1)) := rfl
  rw [e, ← List.append_assoc] at hn
  rw [lb1_app]
  exact hn
theorem lb_ins {zs ys : List (Nat × List Int)} {i q : Nat} {w : List Int} (hn : (lb1 zs ++ lb1 (ys.drop i)).Nodup) (h1 : ∀ p ∈ zs, p.1 ≠ q) (h2 : ∀ p ∈ ys, p.1 ≠ q) : (lb1 (zs ++ [(q, w)]) ++ lb1 (ys.drop i)).Nodup := by
  rw [lb1_app, List.append_assoc]
  rw [List.nodup_append] at hn ⊢
  obtain ⟨n1, n2, n3⟩ := hn
  refine ⟨n1, ?_, fun a ha b hb => ?_⟩
  · show (q :: lb1 (ys.drop i)).Nodup
    rw [List.nodup_cons]
    refine ⟨fun hm => ?_, n2⟩
    obtain ⟨p, hp, e⟩ := List.mem_map.1 hm
    exact h2 p (List.mem_of_mem_drop hp) e
  · rcases List.mem_append.1 hb with hb | hb
    · simp [lb1] at hb
      obtain ⟨p, hp, rfl⟩ := List.mem_map.1 ha
      rw [hb]; exact h1 p hp
    · exact n3 a ha b hb
set_option maxHeartbeats 1000000 in
theorem c_spec_l11Put (ys : List (Nat × List Int)) (w : List Int) (hnd : (lb1 ys).Nodup) (hyl : ys.length ≤ 100000) (hw : w.length ≤ 1048576) (nn : Bool) :
    FunM B 92 [.own 0 0, .sl false .int w] .lrow ys nn (fun rs o => rs = [.own 1 0] ∧ ∃ ys', rw2 ys' = putS w false (rw2 ys) ∧ (lb1 ys').Nodup ∧ o = [.arr .lrow ys 0 nn, .arr .lrow ys' 0 true]) := by
  refine FunM.walk B_ok (fn := Tryz.f92) (fun vs w => Tryz.call92 vs w) Tryz.func92 rfl (by rw [Tryz.ntmps92]; simp) (fun C hC hP hT hΓ hbt hfn hpin hfin => ?_); have hX := BX; rw [← hΓ, ← hbt.1, ← hbt.2.1, ← hbt.2.2.1, ← hbt.2.2.2.2] at hX; rw [hT] at hX; rw [Tryz.ntmps92]; simp only [AW7, simprocAttr, hX]
  refine Run.R ?_
  refine Run.R ?_
  refine Run.R ?_
  refine Run.R ?_
  refine Run.reKP hpin [0, 1, 5, 6, 7] [0, 1] rfl (by simp [oAt, gen0]) (by decide) (by simp) ?_; simp only [AR, AW7, simprocAttr]
  refine Run.loopI (X := List (Nat × List Int) × Bool × Nat) (fun x => ⟨52, [(0, true, .v (.own 0 0)), (1, true, .v (.sl false .int (w))), (5, true, .v (.own 1 0)), (6, true, .v (.bool (x.2.1))), (7, true, .v (.int .i64 (x.2.2)))], [.arr .lrow ys 0 nn, .arr .lrow (x.1) 0 true]⟩) (fun x => x.2.2 ≤ ys.length ∧ x.1.length ≤ 2 * x.2.2 ∧ rw2 x.1 ++ putS w x.2.1 (rw2 (ys.drop x.2.2)) = putS w false (rw2 ys) ∧ (lb1 x.1 ++ lb1 (ys.drop x.2.2)).Nodup) (fun x => ys.length - x.2.2) (([], false, 0)) (⟨Nat.zero_le _, by simp, rfl, hnd⟩) ?_ ?_
  · exact Le.sub (by first | rfl | simp) (by simp only [AW7, simprocAttr, hX]; try simp <;> try (first | rfl | exact ⟨rfl, rfl⟩ | exact ⟨rfl, rfl, rfl⟩))
  rintro ⟨zs, b, i⟩ ⟨hi, hzl, hE, hN⟩ ih
  try simp only []
  simp only [] at hi hzl hE hN
  refine Run.R ?_
  refine Run.nq ?_; refine Run.cW ?_ ?_
  rotate_left
  · intro h
    have hie : i = ys.length := by rw [decide_eq_false_iff_not] at h; omega
    refine Run.exit rfl ?_; refine Run.nq ?_
    refine Run.R ?_
    refine Run.nq ?_; refine Run.cW ?_ ?_
    · intro hb
      have hb : b = false := by simpa using hb
      subst hb
      refine Run.nq ?_; refine Run.regionW hC (fun K hK => ?_); refine wW ?_
      intro q hq
      have hN3 := lb_ins (w := w) hN (hq (.arr .lrow zs 0 true) (.tail _ (.head _)) _ _ _ rfl) (hq (.arr .lrow ys 0 nn) (.head _) _ _ _ rfl)
      rw [hie, List.drop_length] at hE hN3
      have e0 : lb1 ([] : List (Nat × List Int)) = [] := rfl
      rw [e0, List.append_nil] at hN3
      (repeat (with_reducible refine And.intro ?_ ?_); exact vc0)
      refine wE ?_; clear hK K
      refine Run.R ?_
      refine Run.reKP hpin [4] [0, 1] rfl (by simp [oAt, gen0]) (by decide) (by simp) ?_; simp only [AR, AW7, simprocAttr]
      refine Run.retW [4] (by decide) (by rw [hfn]; rfl) (by simp only [AW7, simprocAttr, hX]; rfl) (by simp only [AW7, simprocAttr, hX]) (hfin _ _ _ rfl rfl rfl ?_)
      exact ⟨rfl, _, by rw [← hE, rw2_app]; simp [putS, rw2], hN3, rfl⟩
    intro hb
    have hb : b = true := by simpa using hb
    subst hb
    refine Run.R ?_
    refine Run.reKP hpin [4] [0, 1] rfl (by simp [oAt, gen0]) (by decide) (by simp) ?_; simp only [AR, AW7, simprocAttr]
    rw [hie, List.drop_length] at hE hN
    have e0 : lb1 ([] : List (Nat × List Int)) = [] := rfl
    rw [e0, List.append_nil] at hN
    refine Run.retW [4] (by decide) (by rw [hfn]; rfl) (by simp only [AW7, simprocAttr, hX]; rfl) (by simp only [AW7, simprocAttr, hX]) (hfin _ _ _ rfl rfl rfl ?_)
    exact ⟨rfl, zs, by rw [← hE]; simp [putS, rw2], hN, rfl⟩
  intro h
  have h : i < ys.length := by rw [decide_eq_true_eq] at h; omega
  refine Run.nq ?_; refine Run.regionW hC (fun K hK => ?_); refine wW ?_
  refine FunA.cW hP hT (c_spec_CompareWords w (ys.getD i (0, [])).2 (by omega)) ?_
  rintro rs o ⟨rfl, rfl⟩
  refine wW ?_
  refine wE ?_; clear hK K
  have hd : rw2 (ys.drop i) = (ys.getD i (0, [])).2 :: rw2 (ys.drop (i + 1)) := by rw [drop_cons' ys h]; rfl
  rw [hd] at hE
  simp only [putS] at hE
  have hN2 := lb_step h hN
  refine Run.R ?_
  refine Run.nq ?_; refine Run.cW ?_ ?_
  · intro h0
    have h0 : cmpW w (ys.getD i (0, [])).2 = 0 := by simpa using h0
    rw [if_neg (by omega), h0] at hE
    simp only [h0]
    refine Run.R ?_
    refine Run.R ?_
    refine Run.nq ?_; refine Run.cW ?_ ?_
    · intro h; cases h
    intro _
    refine Run.R ?_
    refine Run.reKP hpin [0, 1, 5, 6, 7] [0, 1] rfl (by simp [oAt, gen0]) (by decide) (by simp) ?_; simp only [AR, AW7, simprocAttr]
    refine Run.RW ?_
    refine Run.le ?_ (ih ((zs ++ [((ys.getD i (0, [])).1, (ys.getD i (0, [])).2)], true, i + 1)) (⟨h, by simp; omega, by rw [rw2_app, List.append_assoc, ← hE]; simp [rw2], hN2⟩) (by (try simp only [List.length_append, List.length_cons, List.length_nil]); omega))
    exact Le.sub (by rfl) (by simp only [AW7, simprocAttr]; try simp)
  intro h0
  have h0 : (cmpW w (ys.getD i (0, [])).2 == 0) = false := h0
  rw [h0, Bool.or_false] at hE
  refine Run.R ?_
  refine Run.nq ?_; refine Run.cW ?_ ?_
  · intro hlt
    have hlt : cmpW w (ys.getD i (0, [])).2 < 0 ∧ b = false := by simpa using hlt
    obtain ⟨hl1, rfl⟩ := hlt
    rw [if_pos ⟨hl1, rfl⟩] at hE
    refine Run.nq ?_; refine Run.regionW hC (fun K hK => ?_); refine wW ?_
    intro q hq
    have hN3 := lb_ins (w := w) hN (hq (.arr .lrow zs 0 true) (.tail _ (.head _)) _ _ _ rfl) (hq (.arr .lrow ys 0 nn) (.head _) _ _ _ rfl)
    (repeat (with_reducible refine And.intro ?_ ?_); exact vc0)
    refine wE ?_; clear hK K
    refine Run.R ?_
    refine Run.R ?_
    have hN4 := lb_step h hN3
    refine Run.reKP hpin [0, 1, 5, 6, 7] [0, 1] rfl (by simp [oAt, gen0]) (by decide) (by simp) ?_; simp only [AR, AW7, simprocAttr]
    refine Run.RW ?_
    refine Run.le ?_ (ih ((zs ++ [(q, w)] ++ [((ys.getD i (0, [])).1, (ys.getD i (0, [])).2)], true, i + 1)) (⟨h, by simp only [List.length_append, List.length_cons, List.length_nil]; omega, by rw [rw2_app, rw2_app, List.append_assoc, List.append_assoc, ← hE]; simp [rw2], hN4⟩) (by (try simp only [List.length_append, List.length_cons, List.length_nil]); omega))
    exact Le.sub (by rfl) (by simp only [AW7, simprocAttr]; try simp)
  intro hlt
  have hlt : ¬ (cmpW w (ys.getD i (0, [])).2 < 0 ∧ b = false) := by intro ⟨k1, k2⟩; rw [k2, decide_eq_true k1] at hlt; cases hlt
  rw [if_neg hlt] at hE
  refine Run.R ?_
  refine Run.reKP hpin [0, 1, 5, 6, 7] [0, 1] rfl (by simp [oAt, gen0]) (by decide) (by simp) ?_; simp only [AR, AW7, simprocAttr]
  refine Run.RW ?_
  refine Run.le ?_ (ih ((zs ++ [((ys.getD i (0, [])).1, (ys.getD i (0, [])).2)], b, i + 1)) (⟨h, by simp; omega, by rw [rw2_app, List.append_assoc, ← hE]; simp [rw2], hN2⟩) (by (try simp only [List.length_append, List.length_cons, List.length_nil]); omega))
  exact Le.sub (by rfl) (by simp only [AW7, simprocAttr]; try simp)
end Go.Proofs.YtcinngodeoidnaaGreat
namespace Go.Proofs.YtcinngodeoidnaaGreat
open Go Go.Aw
theorem c_spec_l7In (rows : List (List Int)) (w : List Int) (hl : rows.length ≤ 1048576) (hr : ∀ r ∈ rows, r.length ≤ 1048576) :
    FunA B 112 [.sl false (.row false) rows, .sl false .int w] (fun rs o => rs = [.bool (decide (w ∈ rows))] ∧ o = []) := by
  refine FunA.walk B_ok (fn := Tryz.f112) (fun vs w => Tryz.call112 vs w) Tryz.func112 rfl (by rw [Tryz.ntmps112]; simp) (fun C hC hP hT hΓ hbt hfn hpin hfin => ?_); have hX := BX; rw [← hΓ, ← hbt.1, ← hbt.2.1, ← hbt.2.2.1, ← hbt.2.2.2.2] at hX; rw [hT] at hX; rw [Tryz.ntmps112]; simp only [AW7, simprocAttr, hX]
  refine Run.R ?_
  refine Run.R ?_
  refine Run.loopI (X := Nat) (fun i => ⟨18, [(0, true, .v (.sl false (.row false) (rows))), (1, true, .v (.sl false .int (w))), (5, true, .v (.int .i64 (i)))], []⟩) (fun i => i ≤ rows.length ∧ ∀ j, j < i → rows.getD j [] ≠ w) (fun i => rows.length - i) (0) (⟨Nat.zero_le _, fun j h => by omega⟩) ?_ ?_
  · exact Le.sub (by first | rfl | simp) (by simp only [AW7, simprocAttr, hX]; try simp <;> try (first | rfl | exact ⟨rfl, rfl⟩ | exact ⟨rfl, rfl, rfl⟩))
  rintro i ⟨hi, hne⟩ ih
  try simp only []
  refine Run.R ?_
  refine Run.nq ?_; refine Run.cW ?_ ?_
  rotate_left
  · intro h
    have h : i = rows.length := by rw [decide_eq_false_iff_not] at h; omega
    refine Run.exit rfl ?_; refine Run.nq ?_
    refine Run.R ?_
    refine Run.rW [4] (hfin _ _ rfl rfl ?_)
    have hm : ¬ w ∈ rows := fun hm => by
      obtain ⟨j, hj, e⟩ := List.getElem_of_mem hm
      exact hne j (by omega) (by rw [getD_eq hj]; exact e)
    exact ⟨by simp [hm], rfl⟩
  intro h
  have h : i < rows.length := by rw [decide_eq_true_eq] at h; omega
  have hri : (rows.getD i []).length ≤ 1048576 := hr _ (by rw [getD_eq h]; exact List.getElem_mem h)
  refine Run.nq ?_; refine Run.regionW hC (fun K hK => ?_); refine wW ?_
  refine FunA.cW hP hT (c_spec_EqualWords (rows.getD i []) w (by omega)) ?_
  rintro rs o ⟨rfl, rfl⟩
  refine wW ?_
  refine wE ?_; clear hK K
  refine Run.nq ?_; refine Run.cW ?_ ?_
  · intro h2
    have h2 : rows.getD i [] = w := by simpa using h2
    refine Run.R ?_
    refine Run.rW [4] (hfin _ _ rfl rfl ?_)
    have hm : w ∈ rows := by rw [← h2, getD_eq h]; exact List.getElem_mem h
    exact ⟨by simp [hm], rfl⟩
  intro h2
  have h2 : rows.getD i [] ≠ w := by intro e; rw [e] at h2; simp at h2
  have hne2 : ∀ j, j < i + 1 → rows.getD j [] ≠ w := fun j hj => by
    by_cases e : j = i
    · rw [e]; exact h2
    · exact hne j (by omega)
  refine Run.RW ?_
  refine Run.le ?_ (ih (i + 1) (⟨by omega, hne2⟩) (by (try simp only [List.length_append, List.length_cons, List.length_nil]); omega))
  exact Le.sub (by rfl) (by simp only [AW7, simprocAttr]; try simp)
end Go.Proofs.YtcinngodeoidnaaGreat

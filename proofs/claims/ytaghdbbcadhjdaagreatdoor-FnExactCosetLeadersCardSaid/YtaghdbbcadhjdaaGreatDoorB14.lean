/- Whether a group is finite: the program's side. -/
import Derived.Test.YtaghdbbcadhjdaaGreatDoorB13
import Derived.Test.YtaghdbbcadhjdaaGreatDoorB11
import Derived.Test.YtaghdbbcadhjdaaGreatDoorB12
import Derived.Shelf.Sort.Plain
set_option linter.unusedVariables false
set_option linter.unusedSimpArgs false
namespace Go.Proofs.YtaghdbbcadhjdaaGreatDoor
open Go Go.Aw Go.Cox
theorem setL_letters : ∀ k : Nat, k < 16 → ∀ n : Nat, n ≤ 4 → k < 2 ^ n → ∀ x ∈ setL k, 0 ≤ x ∧ x < (n : Int) := by decide
theorem setL_len : ∀ k : Nat, k < 16 → (setL k).length ≤ 4 := by decide
theorem pow_le16 : ∀ n : Nat, n ≤ 4 → 2 ^ n ≤ 16 := by decide
theorem pick_sq {c : List (List Int)} (hc : CartanP c) {s : List Int} (hs : letters c.length s) : Sq s.length (pick c s) := by
  refine ⟨by simp [pick], fun r hr => ?_⟩
  simp only [pick, List.mem_map] at hr
  obtain ⟨i, hi, rfl⟩ := hr
  refine ⟨by simp, fun x hx => ?_⟩
  simp only [List.mem_map] at hx
  obtain ⟨j, hj, rfl⟩ := hx
  obtain ⟨a1, a2⟩ := hs i hi
  obtain ⟨b1, b2⟩ := hs j hj
  have := ent_le hc i.toNat j.toNat (by omega) (by omega)
  omega
def minors (c : List (List Int)) (k : Nat) : List Int := (List.range k).map fun i => mn c (i + 1)
theorem minors_succ (c : List (List Int)) (k : Nat) : minors c k ++ [mn c (k + 1)] = minors c (k + 1) := by simp [minors, List.range_succ]
theorem minors_len (c : List (List Int)) (k : Nat) : (minors c k).length = k := by simp [minors]
theorem minors_get (c : List (List Int)) (n k : Nat) (h : k < n) : (minors c n).getD k 0 = mn c (k + 1) := by simp [minors, List.getD_eq_getElem?_getD, h]
noncomputable def pmin (c : List (List Int)) : List Int := if isC c then minors c (2 ^ c.length - 1) else []
theorem shl_one : ∀ n : Nat, n ≤ 4 → IntKind.i64.wrap (1 * 2 ^ min n IntKind.i64.bits) = ((2 ^ n : Nat) : Int) := by decide
theorem c_impl_PrincipalMinors (c : List (List Int)) : FunA B 126 [.sl false (.row false) c] (fun rs o => rs = [.own 0 0] ∧ o = [.arr .int (pmin c) 0 true]) := by
  refine FunA.walk B_ok (fn := Tryz.f126) (fun vs w => Tryz.call126 vs w) Tryz.func126 rfl (by rw [Tryz.ntmps126]; simp) (fun C hC hP hT hΓ hbt hfn hpin hfin => ?_); have hX := BX; rw [← hΓ, ← hbt.1, ← hbt.2.1, ← hbt.2.2.1] at hX; rw [hT] at hX; rw [Tryz.ntmps126]; simp only [AW7, simprocAttr, hX]
  refine Run.R ?_
  refine Run.R ?_
  refine Run.nq ?_; refine Run.regionW hC (fun K hK => ?_); refine wW ?_
  refine FunA.cW hP hT (c_impl_IsCartan c) ?_
  rintro rs o ⟨rfl, rfl⟩
  refine wW ?_
  refine wE ?_; clear hK K
  refine Run.nq ?_; refine Run.cW ?_ ?_
  · intro hb
    have hb : isC c = false := by simpa using hb
    have hp : pmin c = [] := by simp [pmin, hb]
    refine Run.R ?_
    refine Run.rW [2] (hfin _ _ rfl rfl ?_)
    exact ⟨rfl, by rw [hp]⟩
  · intro hb
    have hb : isC c = true := by simpa using hb
    have hc := isC_iff.1 hb
    have hn := hc.2.1
    have hn1 := hc.1
    have hsh := shl_one c.length hn
    have hpw := pow_le16 c.length hn
    have hp1 : 1 ≤ 2 ^ c.length := Nat.one_le_two_pow
    refine Run.R ?_
    refine Run.le (Le.sub (fr' := [(0, true, .v (.sl false (.row false) c)), (2, true, .v .nils), (3, true, .v (.own 0 0)), (4, true, .v (.int .i64 ((0 + 1 : Nat))))]) rfl (by simp only [AW7, simprocAttr]; try simp)) ?_
    refine Run.loopI (X := Nat) (fun k => ⟨26, [(0, true, .v (.sl false (.row false) (c))), (2, true, .v (.nils)), (3, true, .v (.own 0 0)), (4, true, .v (.int .i64 (((k + 1 : Nat)))))], [.arr .int ((minors c k)) 0 true]⟩) (fun k => k + 1 ≤ 2 ^ c.length) (fun k => 2 ^ c.length - k) (0) (by omega) ?_ ?_
    · exact Le.sub (by first | rfl | simp) (by simp only [AW7, simprocAttr, hX]; try simp <;> try (first | rfl | exact ⟨rfl, rfl⟩ | exact ⟨rfl, rfl, rfl⟩))
    rintro k hk ih
    try simp only []
    have hml := minors_len c k
    refine Run.nq ?_; refine Run.regionW hC (fun K hK => ?_); refine wW ?_
    simp only [hsh]
    refine wE ?_; clear hK K
    refine Run.nq ?_; refine Run.cW ?_ ?_
    · intro h
      have h : k + 1 < 2 ^ c.length := Int.ofNat_lt.1 (of_decide_eq_true h)
      have hl := setL_letters (k + 1) (by omega) c.length hn h
      have hll := setL_len (k + 1) (by omega)
      have hsq := pick_sq hc hl
      refine Run.nq ?_; refine Run.regionW hC (fun K hK => ?_); refine wW ?_
      refine FunA.cW hP hT (c_impl_setOf (k + 1) (by omega)) ?_
      rintro rs o ⟨rfl, rfl⟩
      refine wW ?_
      refine FunA.cW hP hT (c_impl_picked c (setL (k + 1)) hn hc.2.2.1 hl (by omega)) ?_
      rintro rs o ⟨rfl, ys, hy, rfl⟩
      refine wW ?_
      refine FunA.callW hP hT (c_impl_determinant (setL (k + 1)).length (pick c (setL (k + 1))) hll hsq) (by simp only [AW7, simprocAttr]; exact hy.symm) ?_
      rintro rs o ⟨rfl, rfl⟩
      refine wW ?_
      refine wE ?_; clear hK K
      refine Run.RW ?_
      refine Run.reK hpin [0, 2, 3, 4] [0] (by decide) (by simp) ?_; simp only [AR, AW7, simprocAttr]
      refine Run.le ?_ (ih (k + 1) (by omega) (by omega))
      exact Le.sub (by rw [← minors_succ]; rfl) (by simp only [AW7, simprocAttr]; try simp)
    · intro h
      have h : k + 1 = 2 ^ c.length := by have h := of_decide_eq_false h; rw [Int.ofNat_lt] at h; omega
      have hp : pmin c = minors c k := by simp only [pmin, hb, if_true]; rw [show 2 ^ c.length - 1 = k by omega]
      refine Run.exit rfl ?_; refine Run.nq ?_
      refine Run.R ?_
      refine Run.rW [2] (hfin _ _ rfl rfl ?_)
      exact ⟨rfl, by rw [hp]⟩
theorem c_impl_WitnessOf (c : List (List Int)) : FunA B 98 [.sl false (.row false) c] (fun rs o => rs = [.own 0 0] ∧ ∃ xs, (xs = [] ↔ ∀ k, k < (pmin c).length → 0 < (pmin c).getD k 0) ∧ xs.length ≤ 4 ∧ o = [.arr .int xs 0 true]) := by
  have hpl : (pmin c).length ≤ 15 := by
    unfold pmin
    split
    · rename_i hb
      have hc := isC_iff.1 hb
      have := pow_le16 c.length hc.2.1
      rw [minors_len]; omega
    · simp
  refine FunA.walk B_ok (fn := Tryz.f98) (fun vs w => Tryz.call98 vs w) Tryz.func98 rfl (by rw [Tryz.ntmps98]; simp) (fun C hC hP hT hΓ hbt hfn hpin hfin => ?_); have hX := BX; rw [← hΓ, ← hbt.1, ← hbt.2.1, ← hbt.2.2.1] at hX; rw [hT] at hX; rw [Tryz.ntmps98]; simp only [AW7, simprocAttr, hX]
  refine Run.R ?_
  refine Run.nq ?_; refine Run.regionW hC (fun K hK => ?_); refine wW ?_
  refine FunA.cW hP hT (c_impl_PrincipalMinors c) ?_
  rintro rs o ⟨rfl, rfl⟩
  refine wW ?_
  refine wE ?_; clear hK K
  refine Run.loopI (X := Nat) (fun k => ⟨20, [(0, true, .v (.sl false (.row false) (c))), (2, true, .v (.nils)), (6, true, .v (.own 0 0)), (7, true, .v (.int .i64 ((pmin c).length))), (8, true, .v (.int .i64 (k)))], [.arr .int ((pmin c)) 0 true]⟩) (fun k => k ≤ (pmin c).length ∧ ∀ j, j < k → 0 < (pmin c).getD j 0) (fun k => (pmin c).length - k) (0) (⟨Nat.zero_le _, fun j hj => by omega⟩) ?_ ?_
  · exact Le.sub (by first | rfl | simp) (by simp only [AW7, simprocAttr, hX]; try simp <;> try (first | rfl | exact ⟨rfl, rfl⟩ | exact ⟨rfl, rfl, rfl⟩))
  rintro k ⟨hk, hpos⟩ ih
  try simp only []
  refine Run.R ?_
  refine Run.nq ?_; refine Run.cW ?_ ?_
  · intro h
    have h : k < (pmin c).length := by simpa using h
    refine Run.R ?_
    refine Run.R ?_
    refine Run.nq ?_; refine Run.cW ?_ ?_
    · intro h2
      have h2 : (pmin c).getD k 0 ≤ 0 := by simpa using h2
      refine Run.nq ?_; refine Run.regionW hC (fun K hK => ?_); refine wWW ?_
      refine FunA.callW hP hT (c_impl_setOf (k + 1) (by omega)) (by simp only [AW7, simprocAttr]; simp) ?_
      rintro rs o ⟨rfl, rfl⟩
      refine wW ?_
      refine wE ?_; clear hK K
      refine Run.reK hpin [2] [1] (by decide) (by simp) ?_; simp only [AR, AW7, simprocAttr]
      refine Run.rW [2] (hfin _ _ rfl rfl ?_)
      refine ⟨rfl, setL (k + 1), ⟨fun he => absurd he (setL_ne (k + 1) (by omega) (by omega)), fun hall => ?_⟩, setL_len (k + 1) (by omega), rfl⟩
      have := hall k h
      omega
    · intro h2
      have h2 : 0 < (pmin c).getD k 0 := by simp at h2; simpa [List.getD_eq_getElem?_getD] using h2
      refine Run.RW ?_
      refine Run.le ?_ (ih (k + 1) ⟨h, fun j hj => by rcases Nat.lt_or_ge j k with q | q; exact hpos j q; rw [show j = k by omega]; exact h2⟩ (by omega))
      exact Le.sub (by rfl) (by simp only [AW7, simprocAttr]; try simp)
  · intro h
    have h : k = (pmin c).length := by simp at h; omega
    subst h
    refine Run.exit rfl ?_; refine Run.nq ?_
    refine Run.R ?_
    refine Run.reK hpin [2] [1] (by decide) (by simp) ?_; simp only [AR, AW7, simprocAttr]
    refine Run.rW [2] (hfin _ _ rfl rfl ?_)
    exact ⟨rfl, [], ⟨fun _ => hpos, fun _ => rfl⟩, by simp, rfl⟩
open Classical in
noncomputable def isF (c : List (List Int)) : Bool := decide (FinP c)
theorem isF_iff {c : List (List Int)} : isF c = true ↔ FinP c := by simp [isF]
theorem isF_pmin {c : List (List Int)} (hb : isC c = true) {xs : List Int} (h : xs = [] ↔ ∀ k, k < (pmin c).length → 0 < (pmin c).getD k 0) : isF c = ((xs.length : Int) == 0) := by
  have e : FinP c ↔ xs = [] := by
    rw [h]
    have hp : pmin c = minors c (2 ^ c.length - 1) := by simp [pmin, hb]
    rw [hp, minors_len]
    constructor
    · rintro ⟨_, hf⟩ k hk
      rw [minors_get c _ k hk]
      exact hf (k + 1) (by omega) (by omega)
    · intro hf
      refine ⟨isC_iff.1 hb, fun k h1 h2 => ?_⟩
      have := hf (k - 1) (by omega)
      rw [minors_get c _ _ (by omega), show k - 1 + 1 = k by omega] at this
      exact this
  cases hx : isF c with
  | true =>
    have := e.1 (isF_iff.1 hx)
    subst this; rfl
  | false =>
    have hn : xs ≠ [] := fun hh => by rw [isF_iff.2 (e.2 hh)] at hx; cases hx
    have : xs.length ≠ 0 := fun hh => hn (List.eq_nil_of_length_eq_zero hh)
    symm
    simp [hn]
theorem isF_not {c : List (List Int)} (hb : isC c = false) : isF c = false := by
  cases hx : isF c with
  | false => rfl
  | true => rw [isC_true (isF_iff.1 hx).1] at hb; cases hb
theorem c_impl_IsFinite (c : List (List Int)) : FunA B 66 [.sl false (.row false) c] (fun rs o => rs = [.bool (isF c)] ∧ o = []) := by
  refine FunA.walk B_ok (fn := Tryz.f66) (fun vs w => Tryz.call66 vs w) Tryz.func66 rfl (by rw [Tryz.ntmps66]; simp) (fun C hC hP hT hΓ hbt hfn hpin hfin => ?_); have hX := BX; rw [← hΓ, ← hbt.1, ← hbt.2.1, ← hbt.2.2.1] at hX; rw [hT] at hX; rw [Tryz.ntmps66]; simp only [AW7, simprocAttr, hX]
  refine Run.R ?_
  refine Run.nq ?_; refine Run.regionW hC (fun K hK => ?_); refine wW ?_
  refine FunA.cW hP hT (c_impl_IsCartan c) ?_
  rintro rs o ⟨rfl, rfl⟩
  refine wW ?_
  cases hb : isC c with
  | false =>
    have hf := isF_not hb
    refine wW ?_
    refine .inl (CallG.off (.sl false .int []) ?_)
    refine wW ?_
    refine wE ?_; clear hK K
    refine Run.rW [2] (hfin _ _ rfl rfl ?_)
    simp [hf]
  | true =>
    refine .inr ⟨rfl, ?_⟩
    refine FunA.cW hP hT (c_impl_WitnessOf c) ?_
    rintro rs o ⟨rfl, xs, hxs, hl, rfl⟩
    have hf := isF_pmin hb hxs
    refine wW ?_
    refine wE ?_; clear hK K
    refine Run.reK hpin [2] [] (by decide) (by simp) ?_; simp only [AR, AW7, simprocAttr]
    refine Run.rW [2] (hfin _ _ rfl rfl ?_)
    simp [hf]
end Go.Proofs.YtaghdbbcadhjdaaGreatDoor
namespace Go.Proofs.YtaghdbbcadhjdaaGreatDoor
open Go Go.Aw Go.Cox
theorem setM_full : ∀ n : Nat, n ≤ 4 → ∀ k : Nat, k < 2 ^ n → setM k n = setL k := by decide
def setsL (k : Nat) : List (List Int) := (List.range k).map fun i => setL (i + 1)
theorem setsL_succ (k : Nat) : setsL k ++ [setL (k + 1)] = setsL (k + 1) := by simp [setsL, List.range_succ]
theorem setsL_len (k : Nat) : (setsL k).length = k := by simp [setsL]
theorem setsL_get (n k : Nat) (h : k < n) : (setsL n).getD k [] = setL (k + 1) := by simp [setsL, List.getD_eq_getElem?_getD, h]
theorem c_spec_l4Sets (n : Nat) (hn : n ≤ 4) : FunA B 138 [.int .i64 n] (fun rs o => rs = [.own 0 0] ∧ ∃ ys, ys.map (·.2) = setsL (2 ^ n - 1) ∧ o = [.arr .lrow ys 0 true]) := by
  have hsh := shl_one n hn
  have hpw := pow_le16 n hn
  have hp1 : 1 ≤ 2 ^ n := Nat.one_le_two_pow
  refine FunA.walk B_ok (fn := Tryz.f138) (fun vs w => Tryz.call138 vs w) Tryz.func138 rfl (by rw [Tryz.ntmps138]; simp) (fun C hC hP hT hΓ hbt hfn hpin hfin => ?_); have hX := BX; rw [← hΓ, ← hbt.1, ← hbt.2.1, ← hbt.2.2.1] at hX; rw [hT] at hX; rw [Tryz.ntmps138]; simp only [AW7, simprocAttr, hX]
  refine Run.R ?_
  refine Run.R ?_
  refine Run.R ?_
  refine Run.le (Le.sub (fr' := [(0, true, .v (.int .i64 n)), (2, true, .v .nils), (3, true, .v (.own 0 0)), (4, true, .v (.int .i64 ((0 + 1 : Nat))))]) rfl (by simp only [AW7, simprocAttr]; try simp)) ?_
  refine Run.loopI (X := Nat × List (Nat × List Int)) (fun k => ⟨34, [(0, true, .v (.int .i64 (n))), (2, true, .v (.nils)), (3, true, .v (.own 0 0)), (4, true, .v (.int .i64 (((k.1 + 1 : Nat)))))], [.arr .lrow (k.2) 0 true]⟩) (fun k => k.1 + 1 ≤ 2 ^ n ∧ k.2.map (·.2) = setsL k.1) (fun k => 2 ^ n - k.1) ((0, [])) (⟨by simp only []; omega, rfl⟩) ?_ ?_
  · exact Le.sub (by first | rfl | simp) (by simp only [AW7, simprocAttr, hX]; try simp <;> try (first | rfl | exact ⟨rfl, rfl⟩ | exact ⟨rfl, rfl, rfl⟩))
  rintro ⟨k, ys⟩ ⟨hk, hy⟩ ih
  try simp only []
  simp only [] at hk hy
  have hyl : ys.length = k := by have := congrArg List.length hy; simpa [setsL_len] using this
  refine Run.nq ?_; refine Run.regionW hC (fun K hK => ?_); refine wW ?_
  simp only [hsh]
  refine wE ?_; clear hK K
  refine Run.nq ?_; refine Run.cW ?_ ?_
  · intro h
    have h : k + 1 < 2 ^ n := Int.ofNat_lt.1 (of_decide_eq_true h)
    refine Run.R ?_
    refine Run.R ?_
    refine Run.reK hpin [0, 2, 3, 4, 5, 6] [0, 1] (by decide) (by simp) ?_; simp only [AR, AW7, simprocAttr]
    refine Run.loopI (X := Nat) (fun i => ⟨34, [(0, true, .v (.int .i64 (n))), (2, true, .v (.nils)), (3, true, .v (.own 0 0)), (4, true, .v (.int .i64 (((k + 1 : Nat))))), (5, true, .v (.own 1 0)), (6, true, .v (.int .i64 (i)))], [.arr .lrow (ys) 0 true, .arr .int ((setM (k + 1) i)) 0 true]⟩) (fun i => i ≤ n) (fun i => n - i) (0) (Nat.zero_le _) ?_ ?_
    · exact Le.sub (by first | rfl | simp) (by simp only [AW7, simprocAttr, hX]; try simp <;> try (first | rfl | exact ⟨rfl, rfl⟩ | exact ⟨rfl, rfl, rfl⟩))
    rintro i hi ih2
    try simp only []
    have hsl := setM_len (k + 1) i
    refine Run.R ?_
    refine Run.nq ?_; refine Run.cW ?_ ?_
    · intro h2
      have h2 : i < n := by simpa using h2
      have hb2 := bit_and (k + 1) (by omega) i (by omega)
      have h3 := setM_succ (k + 1) i
      refine Run.R ?_
      refine Run.nq ?_; refine Run.cW ?_ ?_
      · intro hb
        rw [hb2] at hb
        rw [hb, if_pos rfl] at h3
        refine Run.R ?_
        refine Run.RW ?_
        refine Run.reK hpin [0, 2, 3, 4, 5, 6] [0, 1] (by decide) (by simp) ?_; simp only [AR, AW7, simprocAttr]
        refine Run.le ?_ (ih2 (i + 1) (by omega) (by omega))
        exact Le.sub (by rw [h3]) (by simp only [AW7, simprocAttr]; try simp)
      · intro hb
        rw [hb2] at hb
        rw [hb] at h3
        refine Run.RW ?_
        refine Run.le ?_ (ih2 (i + 1) (by omega) (by omega))
        exact Le.sub (by rw [h3]; rfl) (by simp only [AW7, simprocAttr]; try simp)
    · intro h2
      have h2 : i = n := by simp at h2; omega
      have hfull := setM_full n hn (k + 1) (by omega)
      rw [h2, hfull]
      refine Run.exit rfl ?_; refine Run.nq ?_
      refine Run.nq ?_; refine Run.regionW hC (fun K hK => ?_); refine wW ?_
      intro l hl
      refine wW ?_
      refine wE ?_; clear hK K
      refine Run.RW ?_
      refine Run.reK hpin [0, 2, 3, 4] [0] (by decide) (by simp) ?_; simp only [AR, AW7, simprocAttr]
      refine Run.le ?_ (ih (k + 1, ys ++ [(l, setL (k + 1))]) ⟨by simp only []; omega, by simp only [List.map_append, hy, List.map_cons, List.map_nil]; exact setsL_succ k⟩ (by simp only []; omega))
      exact Le.sub (by rfl) (by simp only [AW7, simprocAttr]; try simp)
  · intro h
    have h : k + 1 = 2 ^ n := by have h := of_decide_eq_false h; rw [Int.ofNat_lt] at h; omega
    refine Run.exit rfl ?_; refine Run.nq ?_
    refine Run.R ?_
    refine Run.rW [2] (hfin _ _ rfl rfl ?_)
    exact ⟨rfl, ys, by rw [hy, show 2 ^ n - 1 = k by omega], rfl⟩
theorem c_spec_SubCartan (c : List (List Int)) (s : List Int) (hc : CartanP c) (hs : setP c.length s) (hne : s ≠ []) :
    FunA B 124 [.sl false (.row false) c, .sl false .int s] (fun rs o => rs = [.own 0 0, .bool true] ∧ ∃ ys, ys.map (·.2) = pick c s ∧ o = [.arr .lrow ys 0 true]) := by
  have hl4 : s.length ≤ c.length := set_len hs
  have hlet : letters c.length s := set_letters hs
  have hn := hc.2.1
  have hset : isSetB c s = true := by unfold isSetB; rw [isC_true hc, setB_iff.2 hs]; rfl
  have hsl : s.length ≠ 0 := fun h => hne (List.eq_nil_of_length_eq_zero h)
  refine FunA.walk B_ok (fn := Tryz.f124) (fun vs w => Tryz.call124 vs w) Tryz.func124 rfl (by rw [Tryz.ntmps124]; simp) (fun C hC hP hT hΓ hbt hfn hpin hfin => ?_); have hX := BX; rw [← hΓ, ← hbt.1, ← hbt.2.1, ← hbt.2.2.1] at hX; rw [hT] at hX; rw [Tryz.ntmps124]; simp only [AW7, simprocAttr, hX]
  refine Run.R ?_
  refine Run.R ?_
  refine Run.nq ?_; refine Run.regionW hC (fun K hK => ?_); refine wW ?_
  refine FunA.cW hP hT (c_spec_l3Set c s (by omega)) ?_
  rintro rs o ⟨rfl, rfl⟩
  simp only [hset]
  refine wW ?_
  refine wE ?_; clear hK K
  refine Run.nq ?_; refine Run.cW ?_ ?_
  · intro h
    simp [hne] at h
  intro h
  clear h
  refine Run.R ?_
  refine Run.reK hpin [0, 1, 4, 5, 6, 7] [0] (by decide) (by simp) ?_; simp only [AR, AW7, simprocAttr]
  refine Run.loopI (X := Nat × List (Nat × List Int)) (fun m => ⟨55, [(0, true, .v (.sl false (.row false) (c))), (1, true, .v (.sl false .int (s))), (4, true, .v (.nils)), (5, true, .v (.bool (false))), (6, true, .v (.own 0 0)), (7, true, .v (.int .i64 (m.1)))], [.arr .lrow (m.2) 0 true]⟩) (fun m => m.1 ≤ s.length ∧ m.2.map (·.2) = (s.take m.1).map (rowP c s)) (fun m => s.length - m.1) ((0, [])) (⟨Nat.zero_le _, rfl⟩) ?_ ?_
  · exact Le.sub (by first | rfl | simp) (by simp only [AW7, simprocAttr, hX]; try simp <;> try (first | rfl | exact ⟨rfl, rfl⟩ | exact ⟨rfl, rfl, rfl⟩))
  rintro ⟨m, ys⟩ ⟨hm, hy⟩ ih
  try simp only []
  simp only [] at hm hy
  have hyl : ys.length = m := by have := congrArg List.length hy; simpa [hm] using this
  refine Run.R ?_
  refine Run.nq ?_; refine Run.cW ?_ ?_
  · intro h
    have h : m < s.length := by simpa using h
    obtain ⟨a1, a2⟩ := letters_mem hlet h
    have hr := hc.2.2.1 (s.getD m 0).toNat (by omega)
    refine Run.R ?_
    refine Run.R ?_
    refine Run.reK hpin [0, 1, 4, 5, 6, 7, 8, 9] [0, 1] (by decide) (by simp) ?_; simp only [AR, AW7, simprocAttr]
    refine Run.loopI (X := Nat) (fun k => ⟨55, [(0, true, .v (.sl false (.row false) (c))), (1, true, .v (.sl false .int (s))), (4, true, .v (.nils)), (5, true, .v (.bool (false))), (6, true, .v (.own 0 0)), (7, true, .v (.int .i64 (m))), (8, true, .v (.own 1 0)), (9, true, .v (.int .i64 (k)))], [.arr .lrow (ys) 0 true, .arr .int (((s.take k).map fun j => ent c (s.getD m 0).toNat j.toNat)) 0 true]⟩) (fun k => k ≤ s.length) (fun k => s.length - k) (0) (Nat.zero_le _) ?_ ?_
    · exact Le.sub (by first | rfl | simp) (by simp only [AW7, simprocAttr, hX]; try simp <;> try (first | rfl | exact ⟨rfl, rfl⟩ | exact ⟨rfl, rfl, rfl⟩))
    rintro k hk ih2
    try simp only []
    refine Run.R ?_
    refine Run.nq ?_; refine Run.cW ?_ ?_
    · intro h2
      have h2 : k < s.length := by simpa using h2
      obtain ⟨b1, b2⟩ := letters_mem hlet h2
      have hsn := map_snoc (fun j => ent c (s.getD m 0).toNat j.toNat) s 0 k h2
      refine Run.nq ?_; refine Run.regionD hC true [0,1,2,3,4,5,6,7,8,9,10,11,12,13,14,15,16] (by kernel_rfl) (fun K hK => ?_); simp only [AW7, simprocAttr, hX]; (repeat (with_reducible refine And.intro ?_ ?_); exact vc0)
      refine wE ?_; clear hK K
      refine Run.RW ?_
      refine Run.reK hpin [0, 1, 4, 5, 6, 7, 8, 9] [0, 1] (by decide) (by simp) ?_; simp only [AR, AW7, simprocAttr]
      refine Run.le ?_ (ih2 (k + 1) (by omega) (by omega))
      exact Le.sub (by rw [← hsn]) (by simp only [AW7, simprocAttr]; try simp)
    · intro h2
      have h2 : k = s.length := by simp at h2; omega
      subst h2
      rw [List.take_length]
      refine Run.exit rfl ?_; refine Run.nq ?_
      refine Run.nq ?_; refine Run.regionW hC (fun K hK => ?_); refine wW ?_
      intro l hl
      refine wW ?_
      refine wE ?_; clear hK K
      refine Run.RW ?_
      refine Run.reK hpin [0, 1, 4, 5, 6, 7] [0] (by decide) (by simp) ?_; simp only [AR, AW7, simprocAttr]
      refine Run.le ?_ (ih (m + 1, ys ++ [(l, rowP c s (s.getD m 0))]) ⟨h, by simp only [List.map_append, hy, List.map_cons, List.map_nil]; exact map_snoc (rowP c s) s 0 m h⟩ (by simp only []; omega))
      exact Le.sub (by rfl) (by simp only [AW7, simprocAttr]; try simp)
  · intro h
    have h : m = s.length := by simp at h; omega
    subst h
    rw [List.take_length] at hy
    refine Run.exit rfl ?_; refine Run.nq ?_
    refine Run.R ?_
    refine Run.rW [4, 5] (hfin _ _ rfl rfl ?_)
    exact ⟨rfl, ys, hy, rfl⟩
theorem c_spec_l4Without (n j : Nat) (m : List (List Int)) (hn : n + 1 ≤ 4) (hm : Sq (n + 1) m) (hj : j < n + 1) :
    FunA B 168 [.sl false (.row false) m, .int .i64 j] (fun rs o => rs = [.own 0 0] ∧ ∃ ys, ys.map (·.2) = minorL m j ∧ o = [.arr .lrow ys 0 true]) := by
  have hml := hm.1
  have htn : (m.drop 1).length = n := by simp [hml]
  refine FunA.walk B_ok (fn := Tryz.f168) (fun vs w => Tryz.call168 vs w) Tryz.func168 rfl (by rw [Tryz.ntmps168]; simp) (fun C hC hP hT hΓ hbt hfn hpin hfin => ?_); have hX := BX; rw [← hΓ, ← hbt.1, ← hbt.2.1, ← hbt.2.2.1] at hX; rw [hT] at hX; rw [Tryz.ntmps168]; simp only [AW7, simprocAttr, hX]
  refine Run.R ?_
  refine Run.R ?_
  refine Run.R ?_
  refine Run.le (Le.sub (fr' := [(0, true, .v (.sl false (.row false) m)), (1, true, .v (.int .i64 j)), (4, true, .v .nils), (5, true, .v (.own 0 0)), (6, true, .v (.int .i64 ((0 + 1 : Nat))))]) rfl (by simp only [AW7, simprocAttr]; try simp)) ?_
  refine Run.loopI (X := Nat × List (Nat × List Int)) (fun k => ⟨41, [(0, true, .v (.sl false (.row false) (m))), (1, true, .v (.int .i64 (j))), (4, true, .v (.nils)), (5, true, .v (.own 0 0)), (6, true, .v (.int .i64 (((k.1 + 1 : Nat)))))], [.arr .lrow (k.2) 0 true]⟩) (fun k => k.1 ≤ n ∧ k.2.map (·.2) = ((m.drop 1).take k.1).map (fun r => r.take j ++ r.drop (j + 1))) (fun k => n - k.1) ((0, [])) (⟨Nat.zero_le _, rfl⟩) ?_ ?_
  · exact Le.sub (by first | rfl | simp) (by simp only [AW7, simprocAttr, hX]; try simp <;> try (first | rfl | exact ⟨rfl, rfl⟩ | exact ⟨rfl, rfl, rfl⟩))
  rintro ⟨k, ys⟩ ⟨hk, hy⟩ ih
  try simp only []
  simp only [] at hk hy
  have hyl : ys.length = k := by have := congrArg List.length hy; simp at this; omega
  refine Run.R ?_
  refine Run.nq ?_; refine Run.cW ?_ ?_
  · intro h
    have h : k < n := by simp [hml] at h; omega
    have hmem : m.getD (k + 1) [] ∈ m := by simp [List.getD_eq_getElem?_getD, show k + 1 < m.length by omega]
    have hrl := (hm.2 _ hmem).1
    have hgd : (m.drop 1).getD k [] = m.getD (k + 1) [] := by simp [List.getD_eq_getElem?_getD, List.getElem?_drop, Nat.add_comm]
    generalize hr : m.getD (k + 1) [] = r at hrl hgd
    refine Run.R ?_
    refine Run.R ?_
    refine Run.reK hpin [0, 1, 4, 5, 6, 7, 8] [0, 1] (by decide) (by simp) ?_; simp only [AR, AW7, simprocAttr]
    refine Run.loopI (X := Nat) (fun q => ⟨41, [(0, true, .v (.sl false (.row false) (m))), (1, true, .v (.int .i64 (j))), (4, true, .v (.nils)), (5, true, .v (.own 0 0)), (6, true, .v (.int .i64 (((k + 1 : Nat))))), (7, true, .v (.own 1 0)), (8, true, .v (.int .i64 (q)))], [.arr .lrow (ys) 0 true, .arr .int (((r.take (min q j)) ++ (r.take q).drop (j + 1))) 0 true]⟩) (fun q => q ≤ n + 1) (fun q => n + 1 - q) (0) (Nat.zero_le _) ?_ ?_
    · exact Le.sub (by first | rfl | simp) (by simp only [AW7, simprocAttr, hX]; try simp <;> try (first | rfl | exact ⟨rfl, rfl⟩ | exact ⟨rfl, rfl, rfl⟩))
    rintro q hq ih2
    try simp only []
    have hlen : ((r.take (min q j)) ++ (r.take q).drop (j + 1)).length ≤ 8 := by simp; omega
    refine Run.R ?_
    refine Run.nq ?_; refine Run.cW ?_ ?_
    · intro h2
      have h2 : q < n + 1 := by simp [hml] at h2; omega
      refine Run.R ?_
      refine Run.nq ?_; refine Run.cW ?_ ?_
      · intro hqj
        have hqj : q ≠ j := fun h => by simp [h] at hqj
        have e : ((r.take (min q j)) ++ (r.take q).drop (j + 1)) ++ [r.getD q 0] = (r.take (min (q + 1) j)) ++ (r.take (q + 1)).drop (j + 1) := by
          have h3 := take_snoc 0 r q (by omega)
          rcases Nat.lt_or_ge q j with h4 | h4
          · rw [show min q j = q by omega, show min (q + 1) j = q + 1 by omega, ← h3]
            rw [List.drop_eq_nil_of_le (by simp; omega), List.drop_eq_nil_of_le (by simp; omega)]
            simp
          · rw [show min q j = j by omega, show min (q + 1) j = j by omega, ← h3, List.append_assoc]
            congr 1
            rw [List.drop_append_of_le_length (by simp; omega)]
        refine Run.R ?_
        rw [hr, e]
        refine Run.RW ?_
        refine Run.reK hpin [0, 1, 4, 5, 6, 7, 8] [0, 1] (by decide) (by simp) ?_; simp only [AR, AW7, simprocAttr]
        refine Run.le ?_ (ih2 (q + 1) (by omega) (by omega))
        exact Le.sub (by rfl) (by simp only [AW7, simprocAttr]; try simp)
      · intro hqj
        have hqj : q = j := by simp at hqj; omega
        have e : (r.take (min q j)) ++ (r.take q).drop (j + 1) = (r.take (min (q + 1) j)) ++ (r.take (q + 1)).drop (j + 1) := by
          rw [show min q j = j by omega, show min (q + 1) j = j by omega, List.drop_eq_nil_of_le (by simp; omega), List.drop_eq_nil_of_le (by simp; omega)]
        rw [e]
        refine Run.RW ?_
        refine Run.le ?_ (ih2 (q + 1) (by omega) (by omega))
        exact Le.sub (by rfl) (by simp only [AW7, simprocAttr]; try simp)
    · intro h2
      have h2 : q = n + 1 := by simp [hml] at h2; omega
      have e : (r.take (min q j)) ++ (r.take q).drop (j + 1) = r.take j ++ r.drop (j + 1) := by
        have ht : r.take q = r := List.take_of_length_le (by omega)
        rw [show min q j = j by omega, ht]
      rw [e]
      refine Run.exit rfl ?_; refine Run.nq ?_
      refine Run.nq ?_; refine Run.regionW hC (fun K hK => ?_); refine wW ?_
      intro l hl
      refine wW ?_
      refine wE ?_; clear hK K
      refine Run.RW ?_
      refine Run.reK hpin [0, 1, 4, 5, 6] [0] (by decide) (by simp) ?_; simp only [AR, AW7, simprocAttr]
      refine Run.le ?_ (ih (k + 1, ys ++ [(l, r.take j ++ r.drop (j + 1))]) ⟨h, by simp only [List.map_append, hy, List.map_cons, List.map_nil]; rw [← hgd]; exact map_snoc (fun r : List Int => r.take j ++ r.drop (j + 1)) (m.drop 1) [] k (by omega)⟩ (by simp only []; omega))
      exact Le.sub (by rfl) (by simp only [AW7, simprocAttr]; try simp)
  · intro h
    have h : k = n := by simp [hml] at h; omega
    rw [List.take_of_length_le (by omega)] at hy
    refine Run.exit rfl ?_; refine Run.nq ?_
    refine Run.R ?_
    refine Run.rW [4] (hfin _ _ rfl rfl ?_)
    exact ⟨rfl, ys, hy, rfl⟩
theorem c_spec_l4Det (n : Nat) : ∀ (m : List (List Int)), n ≤ 4 → Sq n m → FunA B 139 [.sl false (.row false) m] (fun rs o => rs = [.int .i64 (detN n m)] ∧ o = []) := by
  induction n with
  | zero =>
    intro m _ hm
    have hm0 : m = [] := List.eq_nil_of_length_eq_zero hm.1
    subst hm0
    refine FunA.walk B_ok (fn := Tryz.f139) (fun vs w => Tryz.call139 vs w) Tryz.func139 rfl (by rw [Tryz.ntmps139]; simp) (fun C hC hP hT hΓ hbt hfn hpin hfin => ?_); have hX := BX; rw [← hΓ, ← hbt.1, ← hbt.2.1, ← hbt.2.2.1] at hX; rw [hT] at hX; rw [Tryz.ntmps139]; simp only [AW7, simprocAttr, hX]
    refine Run.R ?_
    refine Run.R ?_
    refine Run.nq ?_; refine Run.cW ?_ ?_
    · intro h
      refine Run.R ?_
      refine Run.rW [2] (hfin _ _ rfl rfl ?_)
      exact ⟨rfl, rfl⟩
    · intro h
      simp at h
  | succ n ihn =>
    intro m hn hm
    have hml := hm.1
    refine FunA.walk B_ok (fn := Tryz.f139) (fun vs w => Tryz.call139 vs w) Tryz.func139 rfl (by rw [Tryz.ntmps139]; simp) (fun C hC hP hT hΓ hbt hfn hpin hfin => ?_); have hX := BX; rw [← hΓ, ← hbt.1, ← hbt.2.1, ← hbt.2.2.1] at hX; rw [hT] at hX; rw [Tryz.ntmps139]; simp only [AW7, simprocAttr, hX]
    refine Run.R ?_
    refine Run.R ?_
    refine Run.nq ?_; refine Run.cW ?_ ?_
    · intro h
      simp [hml] at h
      omega
    intro h
    clear h
    have hr0 := (det_term hm hn 0 (by omega)).2.2.2
    have hS0 : detS n m 0 = 0 := rfl
    refine Run.R ?_
    refine Run.R ?_
    refine Run.le (Le.sub (fr' := [(0, true, .v (.sl false (.row false) m)), (2, true, .v (.int .i64 0)), (3, true, .v (.int .i64 (detS n m 0))), (4, true, .v (.int .i64 (0 : Nat)))]) rfl (by simp only [AW7, simprocAttr]; simp [hS0])) ?_
    refine Run.loopI (X := Nat) (fun j => ⟨35, [(0, true, .v (.sl false (.row false) (m))), (2, true, .v (.int .i64 (0))), (3, true, .v (.int .i64 ((detS n m j)))), (4, true, .v (.int .i64 (j)))], []⟩) (fun j => j ≤ n + 1) (fun j => n + 1 - j) (0) (Nat.zero_le _) ?_ ?_
    · exact Le.sub (by first | rfl | simp) (by simp only [AW7, simprocAttr, hX]; try simp <;> try (first | rfl | exact ⟨rfl, rfl⟩ | exact ⟨rfl, rfl, rfl⟩))
    rintro j hj ih
    try simp only []
    refine Run.R ?_
    refine Run.nq ?_; refine Run.cW ?_ ?_
    · intro h
      have h : j < n + 1 := by simp [hml] at h; omega
      obtain ⟨t1, t2, t3, t4⟩ := det_term hm hn j h
      obtain ⟨d1, d2⟩ := detS_le hm hn j (by omega)
      obtain ⟨e1, e2⟩ := detS_le hm hn (j + 1) (by omega)
      have hsn := detS_succ n m j
      have hsq := hm.minor j h
      have hsc : sgn j = if (j : Int) % 2 = 1 then -1 else 1 := by unfold sgn; split <;> split <;> first | rfl | omega
      refine Run.nq ?_; refine Run.regionD hC true [0,1,2,3,4,5,6,7,8,9,10,11] (by kernel_rfl) (fun K hK => ?_); simp (disch := omega) only [wrap_id, AW7, simprocAttr, hX]; (repeat (with_reducible refine And.intro ?_ ?_); exact vc0)
      refine FunA.callD hP hT (c_spec_l4Without n j m hn hm h) (by simp only [AW7, simprocAttr]) ?_
      rintro rs o ⟨rfl, ys, hy, rfl⟩
      refine wW ?_
      refine FunA.callD hP hT (ihn (minorL m j) (by omega) hsq) (by simp only [AW7, simprocAttr]; exact hy.symm) ?_
      rintro rs o ⟨rfl, rfl⟩
      simp (disch := omega) only [wrap_id, AW7, simprocAttr, hX]
      (repeat (with_reducible refine And.intro ?_ ?_); exact vc0)
      refine wE ?_; clear hK K
      refine Run.keep [0, 2, 3, 4, 5] ?_; simp only [AK, Nat.reduceBEq]
      refine Run.R ?_
      refine Run.nq ?_; refine Run.cW ?_ ?_
      · intro h2
        have h2 : (j : Int).tmod 2 = 1 := by simpa using h2
        rw [Int.tmod_eq_emod_of_nonneg (by omega)] at h2
        rw [if_pos h2] at hsc
        rw [hsc, Int.neg_mul, Int.one_mul, Int.neg_mul] at hsn
        refine Run.RW ?_
        refine Run.RW ?_
        rw [show detS n m j + (0 - (m.getD 0 []).getD j 0 * detN n (minorL m j)) = detS n m (j + 1) by rw [hsn]; omega]
        refine Run.RW ?_
        refine Run.reK hpin [0, 2, 3, 4] [] (by decide) (by simp) ?_; simp only [AR, AW7, simprocAttr]
        refine Run.le ?_ (ih (j + 1) (by omega) (by omega))
        exact Le.sub (by rfl) (by simp only [AW7, simprocAttr]; try simp)
      · intro h2
        have h2 : ¬ (j : Int).tmod 2 = 1 := by simpa using h2
        rw [Int.tmod_eq_emod_of_nonneg (by omega)] at h2
        rw [if_neg h2] at hsc
        rw [hsc, Int.one_mul] at hsn
        refine Run.RW ?_
        rw [← hsn]
        refine Run.RW ?_
        refine Run.reK hpin [0, 2, 3, 4] [] (by decide) (by simp) ?_; simp only [AR, AW7, simprocAttr]
        refine Run.le ?_ (ih (j + 1) (by omega) (by omega))
        exact Le.sub (by rfl) (by simp only [AW7, simprocAttr]; try simp)
    · intro h
      have h : j = n + 1 := by simp [hml] at h; omega
      subst h
      refine Run.exit rfl ?_; refine Run.nq ?_
      refine Run.R ?_
      refine Run.rW [2] (hfin _ _ rfl rfl ?_)
      exact ⟨rfl, rfl⟩
theorem setL_set : ∀ k : Nat, k < 16 → ∀ i : Nat, i < (setL k).length → 0 ≤ (setL k).getD i 0 ∧ (0 < i → (setL k).getD (i - 1) 0 < (setL k).getD i 0) := by decide
theorem setL_setP {n k : Nat} (hn : n ≤ 4) (hk : k < 2 ^ n) : setP n (setL k) := by
  have hpw := pow_le16 n hn
  intro i hi
  obtain ⟨h1, h2⟩ := setL_set k (by omega) i hi
  exact ⟨h1, (setL_letters k (by omega) n hn hk _ (getD_mem hi)).2, h2⟩
theorem c_spec_WitnessOf (c : List (List Int)) : FunA B 107 [.sl false (.row false) c] (fun rs o => ∃ xs, (xs = [] ↔ ∀ k, k < (pmin c).length → 0 < (pmin c).getD k 0) ∧ xs.length ≤ 4 ∧ rs = [.sl true .int xs] ∧ o = []) := by
  refine FunA.walk B_ok (fn := Tryz.f107) (fun vs w => Tryz.call107 vs w) Tryz.func107 rfl (by rw [Tryz.ntmps107]; simp) (fun C hC hP hT hΓ hbt hfn hpin hfin => ?_); have hX := BX; rw [← hΓ, ← hbt.1, ← hbt.2.1, ← hbt.2.2.1] at hX; rw [hT] at hX; rw [Tryz.ntmps107]; simp only [AW7, simprocAttr, hX]
  refine Run.R ?_
  refine Run.nq ?_; refine Run.regionW hC (fun K hK => ?_); refine wW ?_
  refine FunA.cW hP hT (c_spec_IsCartan c) ?_
  rintro rs o ⟨rfl, rfl⟩
  refine wW ?_
  refine wE ?_; clear hK K
  refine Run.nq ?_; refine Run.cW ?_ ?_
  · intro hb
    have hb : isC c = false := by simpa using hb
    have hp : pmin c = [] := by simp [pmin, hb]
    refine Run.R ?_
    refine Run.le (Le.letgo 0 (g := 0) (e := .int) (xs := []) (nn := true) [(2, true, .sl true .int [])] rfl ⟨.inr ⟨rfl, rfl⟩, trivial⟩) ?_
    simp only [frV_cons, frV_nil]
    refine Run.reK hpin [2] [] (by decide) (by simp) ?_; simp only [AR, AW7, simprocAttr]
    refine Run.rW [2] (hfin _ _ rfl rfl ?_)
    exact ⟨[], by simp [hp], by simp, rfl, rfl⟩
  · intro hb
    have hb : isC c = true := by simpa using hb
    have hc := isC_iff.1 hb
    have hn := hc.2.1
    have hn1 := hc.1
    have hpw := pow_le16 c.length hn
    have hp1 : 1 ≤ 2 ^ c.length := Nat.one_le_two_pow
    have hp : pmin c = minors c (2 ^ c.length - 1) := by simp [pmin, hb]
    have hpl : (pmin c).length = 2 ^ c.length - 1 := by rw [hp, minors_len]
    refine Run.nq ?_; refine Run.regionW hC (fun K hK => ?_); refine wW ?_
    refine FunA.cW hP hT (c_spec_l4Sets c.length hn) ?_
    rintro rs o ⟨rfl, ys, hy, rfl⟩
    have hyl : ys.length = 2 ^ c.length - 1 := by have := congrArg List.length hy; simpa [setsL_len] using this
    refine wW ?_
    refine wE ?_; clear hK K
    refine Run.R ?_
    refine Run.loopI (X := Nat) (fun k => ⟨37, [(0, true, .v (.sl false (.row false) (c))), (2, true, .v (.nils)), (3, true, .v (.own 0 0)), (4, true, .v (.int .i64 (k)))], [.arr .lrow (ys) 0 true]⟩) (fun k => k ≤ ys.length ∧ ∀ j, j < k → 0 < (pmin c).getD j 0) (fun k => ys.length - k) (0) (⟨Nat.zero_le _, fun j hj => by omega⟩) ?_ ?_
    · exact Le.sub (by first | rfl | simp) (by simp only [AW7, simprocAttr, hX]; try simp <;> try (first | rfl | exact ⟨rfl, rfl⟩ | exact ⟨rfl, rfl, rfl⟩))
    rintro k ⟨hk, hpos⟩ ih
    try simp only []
    refine Run.R ?_
    refine Run.nq ?_; refine Run.cW ?_ ?_
    · intro h
      have h : k < ys.length := by simpa using h
      obtain ⟨l, xs, hlx⟩ : ∃ l xs, ys.getD k (0, []) = (l, xs) := ⟨_, _, rfl⟩
      have hxs : xs = setL (k + 1) := by
        have h1 : (ys.map (·.2)).getD k [] = xs := by
          have := congrArg Prod.snd hlx
          simp only [List.getD_eq_getElem?_getD, List.getElem?_map, List.getElem?_eq_getElem h] at this ⊢
          simpa using this
        rw [hy, setsL_get _ _ (by omega)] at h1
        exact h1.symm
      have hset := setL_setP hn (k := k + 1) (by omega)
      have hne := setL_ne (k + 1) (by omega) (by omega)
      have hsq := pick_sq hc (set_letters hset)
      have hll := setL_len (k + 1) (by omega)
      have hmn : (pmin c).getD k 0 = detN (setL (k + 1)).length (pick c (setL (k + 1))) := by rw [hp, minors_get _ _ _ (by omega)]; rfl
      subst hxs
      refine Run.nq ?_; refine Run.regionW hC (fun K hK => ?_); refine wW ?_
      simp only [hlx, AW7, simprocAttr, hX]
      (repeat (with_reducible refine And.intro ?_ ?_); exact vc0)
      refine FunA.cW hP hT (c_spec_SubCartan c (setL (k + 1)) hc hset hne) ?_
      rintro rs o ⟨rfl, zs, hz, rfl⟩
      refine wW ?_
      refine wE ?_; clear hK K
      refine Run.nq ?_; refine Run.regionW hC (fun K hK => ?_); refine wW ?_
      refine FunA.callW hP hT (c_spec_l4Det (setL (k + 1)).length (pick c (setL (k + 1))) hll hsq) (by simp only [AW7, simprocAttr]; exact hz.symm) ?_
      rintro rs o ⟨rfl, rfl⟩
      refine wW ?_
      refine wE ?_; clear hK K
      rw [← hmn]
      refine Run.nq ?_; refine Run.cW ?_ ?_
      · intro h2
        have h2 : (pmin c).getD k 0 ≤ 0 := by simpa using h2
        refine Run.nq ?_; refine Run.regionW hC (fun K hK => ?_); refine wW ?_
        simp only [hlx, ofE, AW7, simprocAttr, hX]
        (repeat (with_reducible refine And.intro ?_ ?_); exact vc0)
        refine wE ?_; clear hK K
        refine Run.le (Le.re (obs' := []) hpin [] [(2, true, .sl true .int (setL (k + 1)))] rfl trivial (by refine ⟨⟨_, rfl, ?_⟩, trivial⟩ <;> simp [leAV])) ?_
        simp only [frV_cons, frV_nil]
        refine Run.rW [2] (hfin _ _ rfl rfl ?_)
        refine ⟨_, ⟨fun he => absurd he hne, fun hall => ?_⟩, hll, rfl, rfl⟩
        have := hall k (by omega)
        omega
      · intro h2
        have h2 : 0 < (pmin c).getD k 0 := by simp at h2; simpa [List.getD_eq_getElem?_getD] using h2
        refine Run.RW ?_
        refine Run.reK hpin [0, 2, 3, 4] [0] (by decide) (by simp) ?_; simp only [AR, AW7, simprocAttr]
        refine Run.le ?_ (ih (k + 1) ⟨h, fun j hj => by rcases Nat.lt_or_ge j k with q | q; exact hpos j q; rw [show j = k by omega]; exact h2⟩ (by omega))
        exact Le.sub (by rfl) (by simp only [AW7, simprocAttr]; try simp)
    · intro h
      have h : k = ys.length := by simp at h; omega
      subst h
      refine Run.exit rfl ?_; refine Run.nq ?_
      refine Run.R ?_
      refine Run.le (Le.letgo 1 (g := 0) (e := .int) (xs := []) (nn := true) [(2, true, .sl true .int [])] rfl ⟨.inr ⟨rfl, rfl⟩, trivial⟩) ?_
      simp only [frV_cons, frV_nil]
      refine Run.reK hpin [2] [] (by decide) (by simp) ?_; simp only [AR, AW7, simprocAttr]
      refine Run.rW [2] (hfin _ _ rfl rfl ?_)
      exact ⟨[], ⟨fun _ q hq => hpos q (by omega), fun _ => rfl⟩, by simp, rfl, rfl⟩
theorem c_spec_IsFinite (c : List (List Int)) : FunA B 81 [.sl false (.row false) c] (fun rs o => rs = [.bool (isF c)] ∧ o = []) := by
  refine FunA.walk B_ok (fn := Tryz.f81) (fun vs w => Tryz.call81 vs w) Tryz.func81 rfl (by rw [Tryz.ntmps81]; simp) (fun C hC hP hT hΓ hbt hfn hpin hfin => ?_); have hX := BX; rw [← hΓ, ← hbt.1, ← hbt.2.1, ← hbt.2.2.1] at hX; rw [hT] at hX; rw [Tryz.ntmps81]; simp only [AW7, simprocAttr, hX]
  refine Run.R ?_
  refine Run.nq ?_; refine Run.regionW hC (fun K hK => ?_); refine wW ?_
  refine FunA.cW hP hT (c_spec_IsCartan c) ?_
  rintro rs o ⟨rfl, rfl⟩
  refine wW ?_
  cases hb : isC c with
  | false =>
    have hf := isF_not hb
    refine wW ?_
    refine .inl (CallG.off (.sl false .int []) ?_)
    refine wW ?_
    refine wE ?_; clear hK K
    refine Run.rW [2] (hfin _ _ rfl rfl ?_)
    simp [hf]
  | true =>
    refine .inr ⟨rfl, ?_⟩
    refine FunA.cW hP hT (c_spec_WitnessOf c) ?_
    rintro rs o ⟨xs, hxs, hl, rfl, rfl⟩
    have hf := isF_pmin hb hxs
    refine wW ?_
    refine wE ?_; clear hK K
    refine Run.reK hpin [2] [] (by decide) (by simp) ?_; simp only [AR, AW7, simprocAttr]
    refine Run.rW [2] (hfin _ _ rfl rfl ?_)
    simp [hf]
end Go.Proofs.YtaghdbbcadhjdaaGreatDoor
namespace Go.Proofs.YtaghdbbcadhjdaaGreatDoor
open Go Go.Aw Go.Cox
def nbC (c : List (List Int)) (i j : Nat) : Bool := !(j == i) && !(ent c i j == 0)
def nbK (c : List (List Int)) (i k : Nat) : List Int := ((List.range k).filter (nbC c i)).map Int.ofNat
theorem nbK_all (c : List (List Int)) (i : Nat) : nbK c i c.length = nbI c i := rfl
theorem nbK_step (c : List (List Int)) (i k : Nat) : nbK c i (k + 1) = if nbC c i k = true then nbK c i k ++ [(k : Int)] else nbK c i k := by
  unfold nbK
  rw [List.range_succ, List.filter_append, List.map_append]
  by_cases h : nbC c i k = true
  · rw [if_pos h]; simp [h]
  · have h : nbC c i k = false := by simpa using h
    rw [if_neg (by simp [h])]; simp [h]
theorem nbK_len (c : List (List Int)) (i k : Nat) : (nbK c i k).length ≤ k := by
  unfold nbK
  rw [List.length_map]
  exact Nat.le_trans (List.length_filter_le ..) (by simp)
theorem nbI_mem {c : List (List Int)} {i : Nat} : letters c.length (nbI c i) := by
  intro x hx
  simp only [nbI, List.mem_map, List.mem_filter, List.mem_range] at hx
  obtain ⟨j, ⟨h1, _⟩, rfl⟩ := hx
  exact ⟨by simp, by simpa using h1⟩
theorem nbC_eq (c : List (List Int)) (i k : Nat) : (bif (k : Int) != (i : Int) then ent c i k != 0 else false) = nbC c i k := by
  unfold nbC
  by_cases h : k = i
  · subst h; simp
  · have h1 : (k == i) = false := by simpa using h
    have h2 : ((k : Int) != (i : Int)) = true := by simp; omega
    rw [h1, h2]; rfl
theorem c_impl_NeighboursOf (c : List (List Int)) (i : Nat) (hc : CartanP c) (hi : i < c.length) : FunA B 153 [.sl false (.row false) c, .int .i64 i] (fun rs o => rs = [.own 0 0] ∧ o = [.arr .int (nbI c i) 0 true]) := by
  have hn := hc.2.1
  have hrow := hc.2.2.1
  have hpt : ptB c i = true := by simp [ptB]; omega
  refine FunA.walk B_ok (fn := Tryz.f153) (fun vs w => Tryz.call153 vs w) Tryz.func153 rfl (by rw [Tryz.ntmps153]; simp) (fun C hC hP hT hΓ hbt hfn hpin hfin => ?_); have hX := BX; rw [← hΓ, ← hbt.1, ← hbt.2.1, ← hbt.2.2.1] at hX; rw [hT] at hX; rw [Tryz.ntmps153]; simp only [AW7, simprocAttr, hX]
  refine Run.R ?_
  refine Run.R ?_
  refine Run.nq ?_; refine Run.regionW hC (fun K hK => ?_); refine wW ?_
  refine FunA.cW hP hT (c_impl_IsCartan c) ?_
  rintro rs o ⟨rfl, rfl⟩
  rw [isC_true hc]
  refine wW ?_
  refine .inl (FunA.callG hP hT (c_impl_isPoint c i) (fun _ => rfl) (fun _ => by simp only [AW7, simprocAttr]) ?_)
  rw [hpt]
  refine wW ?_
  refine wE ?_; clear hK K
  refine Run.nq ?_; refine Run.cW ?_ ?_
  · intro h; simp at h
  intro _
  refine Run.R ?_
  refine Run.reK hpin [0, 1, 4, 5, 18, 19, 20] [0] (by decide) (by simp) ?_; simp only [AR, AW7, simprocAttr]
  refine Run.loopI (X := Nat) (fun k => ⟨42, [(0, true, .v (.sl false (.row false) (c))), (1, true, .v (.int .i64 (i))), (4, true, .v (.nils)), (5, true, .v (.own 0 0)), (18, true, .v (.sl false (.row false) (c))), (19, true, .v (.int .i64 (c.length))), (20, true, .v (.int .i64 (k)))], [.arr .int ((nbK c i k)) 0 true]⟩) (fun k => k ≤ c.length) (fun k => c.length - k) (0) (Nat.zero_le _) ?_ ?_
  · exact Le.sub (by first | rfl | simp) (by simp only [AW7, simprocAttr, hX]; try simp <;> try (first | rfl | exact ⟨rfl, rfl⟩ | exact ⟨rfl, rfl, rfl⟩))
  rintro k hk ih
  try simp only []
  have hll := nbK_len c i k
  refine Run.R ?_
  refine Run.nq ?_; refine Run.cW ?_ ?_
  rotate_left
  · intro h
    have h : k = c.length := by rw [decide_eq_false_iff_not] at h; omega
    subst h
    refine Run.exit rfl ?_; refine Run.nq ?_
    refine Run.R ?_
    refine Run.rW [4] (hfin _ _ rfl rfl ?_)
    exact ⟨rfl, by rw [nbK_all]⟩
  intro h
  have h : k < c.length := by rw [decide_eq_true_eq] at h; omega
  have hri := hrow i hi
  refine Run.R ?_
  refine Run.R ?_
  refine Run.nq ?_; refine Run.cW ?_ ?_
  · intro h2
    have h2 : nbC c i k = true := by rw [← nbC_eq]; exact h2
    have e := nbK_step c i k
    rw [if_pos h2] at e
    refine Run.R ?_
    refine Run.RW ?_
    refine Run.reK hpin [0, 1, 4, 5, 18, 19, 20] [0] (by decide) (by simp) ?_; simp only [AR, AW7, simprocAttr]
    refine Run.le ?_ (ih (k + 1) (by omega) (by (try simp only [List.length_append, List.length_cons, List.length_nil]); omega))
    exact Le.sub (by first | rfl | (simp only [e]; done) | (rw [e]; rfl)) (by simp only [AW7, simprocAttr]; try simp)
  · intro h2
    have h2 : nbC c i k = false := by rw [← nbC_eq]; exact h2
    have e := nbK_step c i k
    rw [if_neg (by simp [h2])] at e
    refine Run.RW ?_
    refine Run.le ?_ (ih (k + 1) (by omega) (by (try simp only [List.length_append, List.length_cons, List.length_nil]); omega))
    exact Le.sub (by first | rfl | (simp only [e]; done) | (rw [e]; rfl)) (by simp only [AW7, simprocAttr]; try simp)
theorem c_spec_NeighboursOf (c : List (List Int)) (i : Nat) (hc : CartanP c) (hi : i < c.length) : FunA B 170 [.sl false (.row false) c, .int .i64 i] (fun rs o => rs = [.own 0 0] ∧ o = [.arr .int (nbI c i) 0 true]) := by
  have hn := hc.2.1
  have hrow := hc.2.2.1
  have hin : inB (i : Int) 0 ((c.length : Int) - 1) = true := by simp [inB]; omega
  refine FunA.walk B_ok (fn := Tryz.f170) (fun vs w => Tryz.call170 vs w) Tryz.func170 rfl (by rw [Tryz.ntmps170]; simp) (fun C hC hP hT hΓ hbt hfn hpin hfin => ?_); have hX := BX; rw [← hΓ, ← hbt.1, ← hbt.2.1, ← hbt.2.2.1] at hX; rw [hT] at hX; rw [Tryz.ntmps170]; simp only [AW7, simprocAttr, hX]
  refine Run.R ?_
  refine Run.R ?_
  refine Run.R ?_
  refine Run.loopI (X := Nat) (fun k => ⟨43, [(0, true, .v (.sl false (.row false) (c))), (1, true, .v (.int .i64 (i))), (4, true, .v (.nils)), (5, true, .v (.own 0 0)), (6, true, .v (.int .i64 (k)))], [.arr .int ((nbK c i k)) 0 true]⟩) (fun k => k ≤ c.length) (fun k => c.length - k) (0) (Nat.zero_le _) ?_ ?_
  · exact Le.sub (by first | rfl | simp) (by simp only [AW7, simprocAttr, hX]; try simp <;> try (first | rfl | exact ⟨rfl, rfl⟩ | exact ⟨rfl, rfl, rfl⟩))
  rintro k hk ih
  try simp only []
  have hll := nbK_len c i k
  rcases Nat.lt_or_ge k c.length with h | h
  · have hd : decide ((k : Int) < c.length) = true := by simp; exact h
    refine Run.nq ?_; refine Run.regionW hC (fun K hK => ?_); refine wW ?_
    rw [hd]
    refine .inl (FunA.callG hP hT (c_spec_IsCartan c) (fun _ => rfl) (fun _ => by simp only [AW7, simprocAttr]) ?_)
    rw [isC_true hc]
    refine wWW ?_
    refine .inl (FunA.callG hP hT (c_spec_l1In i 0 ((c.length : Int) - 1)) (fun _ => rfl) (fun _ => by simp only [AW7, simprocAttr]) ?_)
    rw [hin]
    refine wW ?_
    refine wE ?_; clear hK K
    refine Run.nq ?_; refine Run.cW ?_ ?_
    rotate_left
    · intro h; simp at h
    intro _
    have hri := hrow i hi
    refine Run.R ?_
    refine Run.nq ?_; refine Run.cW ?_ ?_
    · intro h2
      have h2 : nbC c i k = true := by rw [← nbC_eq]; exact h2
      have e := nbK_step c i k
      rw [if_pos h2] at e
      refine Run.R ?_
      refine Run.RW ?_
      refine Run.reK hpin [0, 1, 4, 5, 6] [0] (by decide) (by simp) ?_; simp only [AR, AW7, simprocAttr]
      refine Run.le ?_ (ih (k + 1) (by omega) (by (try simp only [List.length_append, List.length_cons, List.length_nil]); omega))
      exact Le.sub (by first | rfl | (simp only [e]; done) | (rw [e]; rfl)) (by simp only [AW7, simprocAttr]; try simp)
    · intro h2
      have h2 : nbC c i k = false := by rw [← nbC_eq]; exact h2
      have e := nbK_step c i k
      rw [if_neg (by simp [h2])] at e
      refine Run.RW ?_
      refine Run.le ?_ (ih (k + 1) (by omega) (by (try simp only [List.length_append, List.length_cons, List.length_nil]); omega))
      exact Le.sub (by first | rfl | (simp only [e]; done) | (rw [e]; rfl)) (by simp only [AW7, simprocAttr]; try simp)
  · have h : k = c.length := by omega
    subst h
    have hd : decide ((c.length : Int) < c.length) = false := by simp
    refine Run.nq ?_; refine Run.regionW hC (fun K hK => ?_); refine wW ?_
    rw [hd]
    refine .inl (CallG.off (.bool false) ?_)
    refine wWW ?_
    refine .inl (CallG.off (.bool false) ?_)
    refine wW ?_
    refine wE ?_; clear hK K
    refine Run.nq ?_; refine Run.cW ?_ ?_
    · intro h; simp at h
    intro _
    refine Run.exit rfl ?_; refine Run.nq ?_
    refine Run.R ?_
    refine Run.rW [4] (hfin _ _ rfl rfl ?_)
    exact ⟨rfl, by rw [nbK_all]⟩
end Go.Proofs.YtaghdbbcadhjdaaGreatDoor
namespace Go.Proofs.YtaghdbbcadhjdaaGreatDoor
open Go Go.Aw
def AscI (l : List Int) : Prop := l.Pairwise fun a b => a ≤ b
theorem insI_perm (x : Int) : ∀ l, (insI x l).Perm (x :: l)
  | [] => .refl _
  | y :: l => by
    simp only [insI]
    by_cases h : x ≤ y
    · rw [decide_eq_true h, cond_true]
    · rw [decide_eq_false h, cond_false]
      exact ((insI_perm x l).cons y).trans (.swap x y l)
theorem insI_asc (x : Int) : ∀ {l}, AscI l → AscI (insI x l)
  | [], _ => by unfold AscI; simp [insI]
  | y :: l, h => by
    obtain ⟨h1, h2⟩ := List.pairwise_cons.1 h
    simp only [insI]
    by_cases hx : x ≤ y
    · rw [decide_eq_true hx, cond_true]
      refine List.pairwise_cons.2 ⟨fun z hz => ?_, h⟩
      rcases List.mem_cons.1 hz with rfl | hz
      · exact hx
      · have := h1 z hz; omega
    · rw [decide_eq_false hx, cond_false]
      refine List.pairwise_cons.2 ⟨fun z hz => ?_, insI_asc x h2⟩
      rcases List.mem_cons.1 ((insI_perm x l).mem_iff.1 hz) with rfl | hz
      · omega
      · exact h1 z hz
theorem sortI_spec : ∀ l, (sortI l).Perm l ∧ AscI (sortI l)
  | [] => ⟨.refl _, List.Pairwise.nil⟩
  | x :: l => by
    obtain ⟨h1, h2⟩ := sortI_spec l
    exact ⟨(insI_perm x _).trans (h1.cons x), insI_asc x h2⟩
theorem asc_uniq : ∀ {a b : List Int}, a.Perm b → AscI a → AscI b → a = b
  | [], b, h, _, _ => h.nil_eq
  | x :: a, [], h, _, _ => absurd h.symm.nil_eq (by simp)
  | x :: a, y :: b, h, ha, hb => by
    obtain ⟨a1, a2⟩ := List.pairwise_cons.1 ha
    obtain ⟨b1, b2⟩ := List.pairwise_cons.1 hb
    have hxy : x = y := by
      rcases List.mem_cons.1 (h.mem_iff.1 (List.mem_cons_self ..)) with e | e
      · exact e
      · rcases List.mem_cons.1 (h.mem_iff.2 (List.mem_cons_self ..)) with e2 | e2
        · exact e2.symm
        · have := b1 x e; have := a1 y e2; omega
    subst hxy
    rw [asc_uniq ((List.perm_cons x).1 h) a2 b2]
theorem merge_sortI (l : List Int) : l.mergeSort (fun x y => decide (x ≤ y)) = sortI l := by
  refine asc_uniq ((List.mergeSort_perm l _).trans (sortI_spec l).1.symm) ?_ (sortI_spec l).2
  have := List.pairwise_mergeSort (le := fun x y : Int => decide (x ≤ y)) (by intro a b c; simp; omega) (by intro a b; simp; omega) l
  exact this.imp fun h => by simpa using h
theorem sortI_len (l : List Int) : (sortI l).length = l.length := (sortI_spec l).1.length_eq
theorem gr_heap (w : World) (blk : Nat) (n : Nat) (d : Array Int) (os : Array Obj) (b : Nat) (hb : b < w.heap.size) :
    (Go.Sort.grow (Go.Sort.putRow (Value.int .i64) (Go.Sort.ahead w n) blk 0 d) os).heap[b]? = if b = blk then (w.heap[b]?).map (Go.Sort.onCells (Go.Sort.putCells (Value.int .i64) 0 d)) else w.heap[b]? := by
  show ((w.heap.modify blk (Go.Sort.onCells (Go.Sort.putCells (Value.int .i64) 0 d))) ++ os)[b]? = _
  rw [Array.getElem?_append, if_pos (by simpa using hb), Array.getElem?_modify]
  by_cases h : b = blk
  · rw [if_pos h, if_pos h.symm]
  · rw [if_neg h, if_neg (Ne.symm h)]
theorem ACall.sortI {B C : Ctx} (hP : B.P = C.P) (hT : B.tid = C.tid) {ρs : Go.Shelf.Ren} (L : Lays.n189 B.P ρs) {f : FuncId} (hf : ρs.f 189 = f) (hcall : ∀ (vs : Array Value) (w : World), (callFunc f vs).run B.P w = .ok (.enter f vs) w) {obs : List O} (id gg : Nat) {xs : List Int}
    (ho : oAt obs id = .arr .int xs gg true) (hxb : xs.length ≤ 1048576) {K : Sl → List O → Prop} (hk : K (.t []) (oSet obs id (.arr .int (Go.Proofs.YtaghdbbcadhjdaaGreatDoor.sortI xs) gg true))) : ACall C obs f [.own id gg] fun x o => Later (K x o) := by
  refine ⟨fun vs w => by rw [← hP]; exact hcall vs w, fun w ρ vs rr hl hx => ?_⟩
  have hid : id < obs.length := by
    rcases Nat.lt_or_ge id obs.length with h | h
    · exact h
    · rw [oAt_eq, List.getElem?_eq_none h] at ho; cases ho
  have ho' : obs[id]? = some (.arr .int xs gg true) := by rw [oAt_get hid, ho]
  match vs, hl with
  | [u1], _ =>
  have a1 := hx 0 _ u1 rfl rfl
  obtain ⟨_, a1⟩ := (show AVRel (C.V w obs ρ) obs ρ (.own id gg) u1 from a1)
  have hu1 : u1 = ρ id := (a1 gg (by unfold genOf; rw [ho']; rfl)).2 rfl
  obtain ⟨cs, hown, henc, hnn, hml⟩ := rr.os id _ ho'
  have hcs := enc_ints henc
  subst hcs
  rcases hown.2 with ⟨hv, _⟩ | ⟨b, cap, cur, hv, _, hg, h1, h2, h3, h4⟩
  · exact (hnn rfl hv).elim
  simp only [E.size, Nat.mul_one] at h3 h4
  have hblk : b < w.heap.size := (Array.getElem?_eq_some_iff.1 hg).1
  have hcc : ∀ i (hi : i < xs.length), cur[i]? = some (.int .i64 xs[i]) := fun i hi => by
    have := congrArg (fun l => l[i]?) h4
    simp only [List.getElem?_take, if_pos hi, List.getElem?_map, List.getElem?_eq_getElem hi, Option.map_some] at this
    simpa using this
  have hH : Go.Sort.Holds (Value.int .i64) w b 0 xs.toArray := fun j hj => by
    have hj : j < xs.length := by simpa using hj
    refine ⟨?_, ?_⟩
    · simp only [World.cell?, hg, Nat.zero_add]
      show cur[j]? = _
      rw [hcc j hj]
      simp [hj]
    · simp [World.frozen?, hg]
  have main := Any.slices_Sort_int L b 0 cap xs w hH hblk (by omega)
  rw [hf, hP] at main
  subst hu1
  rw [hv]
  refine main.mono fun e w' ⟨he, n, os, hw'⟩ => ⟨.tuple #[], he, .t [], ?_⟩
  rw [merge_sortI] at hw'
  have hlen := sortI_len xs
  have hheap := fun b' (hb : b' < w.heap.size) => gr_heap w b n (Go.Proofs.YtaghdbbcadhjdaaGreatDoor.sortI xs).toArray os b' hb
  have hext : Ext (fun b' => fpo (ρ id) (.arr .int xs gg true) b') w w' := by
    rw [hw']
    refine ⟨rfl, rfl, rfl, ?_, Nat.le_add_right _ _, fun b' hb' hS => ?_⟩
    · show w.heap.size ≤ ((w.heap.modify b _) ++ os).size
      simp
    · rw [hheap b' hb', if_neg]
      intro e
      subst e
      exact hS (by simp [fpo, hv, Value.ownBlock])
  have hfb : ∀ b', fpo (ρ id) (.arr .int (Go.Proofs.YtaghdbbcadhjdaaGreatDoor.sortI xs) gg true) b' → fpo (ρ id) (.arr .int xs gg true) b' ∨ w.heap.size ≤ b' := fun b' hb' => .inl hb'
  have T := Turn.one rr id (.arr .int xs gg true) (.arr .int (Go.Proofs.YtaghdbbcadhjdaaGreatDoor.sortI xs) gg true) (ρ id) ho' hext (w' := w') ?_ hfb (fun c' hc => ⟨gg, rfl, .inl ⟨(by cases hc; rfl), rfl⟩⟩)
  · have hst := T.step rr
    refine ⟨obs.set id (.arr .int (Go.Proofs.YtaghdbbcadhjdaaGreatDoor.sortI xs) gg true), _, hst, ⟨[], rfl, rfl, by simp⟩, ?_⟩
    rw [oSet_eq] at hk
    exact hk
  · refine ⟨(Go.Proofs.YtaghdbbcadhjdaaGreatDoor.sortI xs).map (Value.int .i64), ⟨by simp [E.size], .inr ⟨b, cap, Go.Sort.putCells (Value.int .i64) 0 (Go.Proofs.YtaghdbbcadhjdaaGreatDoor.sortI xs).toArray cur, by rw [hlen]; exact hv, Nat.zero_le _, ?_, by rw [hlen]; exact h1, h2, by simpa [Go.Sort.putCells, E.size] using h3, ?_⟩⟩, ⟨by simp [E.size], fun i hi => ?_⟩, fun _ => by rw [hv]; simp, by rw [hlen]; exact hml⟩
    · rw [hw', hheap b hblk, if_pos rfl, hg]
      rfl
    · rw [hlen]
      apply List.ext_getElem?
      intro i
      simp only [E.size, Nat.mul_one]
      by_cases hi : i < xs.length
      · rw [List.getElem?_take_of_lt hi]
        have hic : i < cur.size := by rw [h3]; omega
        rw [Array.getElem?_toList]
        unfold Go.Sort.putCells
        rw [Array.getElem?_mapIdx, Array.getElem?_eq_getElem hic]
        simp [hlen, hi]
      · rw [List.getElem?_eq_none (by simp; omega), List.getElem?_eq_none (by simp [hlen]; omega)]
    · refine ⟨.int .i64 (Go.Proofs.YtaghdbbcadhjdaaGreatDoor.sortI xs)[i], rfl, fun j hj => ?_⟩
      have : j = 0 := by simp [E.size] at hj; omega
      subst this
      simp [E.size, Value.cells, hi]
def sortIL_ren : Go.Shelf.Ren := ⟨fun | 189 => 55 | 125 => 85 | 257 => 84 | 128 => 117 | 129 => 118 | 294 => 108 | 295 => 109 | 296 => 110 | 297 => 111 | 298 => 112 | 299 => 113 | 216 => 114 | 300 => 115 | 301 => 116 | 328 => 140 | 329 => 141 | 330 => 142 | 331 => 143 | 332 => 144 | 215 => 145 | 343 => 169 | n => n, fun | 28 => 27 | 3 => 3 | 46 => 65 | 0 => 0 | 51 => 88 | 53 => 90 | 4 => 4 | 183 => 80 | 182 => 79 | 131 => 85 | 5 => 5 | 9 => 9 | 218 => 100 | 222 => 104 | 228 => 126 | 229 => 127 | n => n, fun n => n⟩
theorem sortIL : Lays.n189 Tryz.prog sortIL_ren where
  mixed := by kernel_rfl
  f125 := Tryz.func85.trans (congrArg some (by kernel_rfl))
  f128 := Tryz.func117.trans (congrArg some (by kernel_rfl))
  f129 := Tryz.func118.trans (congrArg some (by kernel_rfl))
  f189 := Tryz.func55.trans (congrArg some (by kernel_rfl))
  f215 := Tryz.func145.trans (congrArg some (by kernel_rfl))
  f216 := Tryz.func114.trans (congrArg some (by kernel_rfl))
  f257 := Tryz.func84.trans (congrArg some (by kernel_rfl))
  f294 := Tryz.func108.trans (congrArg some (by kernel_rfl))
  f295 := Tryz.func109.trans (congrArg some (by kernel_rfl))
  f296 := Tryz.func110.trans (congrArg some (by kernel_rfl))
  f297 := Tryz.func111.trans (congrArg some (by kernel_rfl))
  f298 := Tryz.func112.trans (congrArg some (by kernel_rfl))
  f299 := Tryz.func113.trans (congrArg some (by kernel_rfl))
  f300 := Tryz.func115.trans (congrArg some (by kernel_rfl))
  f301 := Tryz.func116.trans (congrArg some (by kernel_rfl))
  f328 := Tryz.func140.trans (congrArg some (by kernel_rfl))
  f329 := Tryz.func141.trans (congrArg some (by kernel_rfl))
  f330 := Tryz.func142.trans (congrArg some (by kernel_rfl))
  f331 := Tryz.func143.trans (congrArg some (by kernel_rfl))
  f332 := Tryz.func144.trans (congrArg some (by kernel_rfl))
  f343 := Tryz.func169.trans (congrArg some (by kernel_rfl))
  t0 := Tryz.underlying0
  a0 := Tryz.isAgg0
  z0 := Tryz.sizeOf0
  v0 := Tryz.zeroValue0
  t3 := Tryz.underlying3
  a3 := Tryz.isAgg3
  z3 := Tryz.sizeOf3
  v3 := Tryz.zeroValue3
  t4 := Tryz.underlying4
  a4 := Tryz.isAgg4
  z4 := Tryz.sizeOf4
  v4 := Tryz.zeroValue4
  t5 := Tryz.underlying5
  a5 := Tryz.isAgg5
  z5 := Tryz.sizeOf5
  v5 := Tryz.zeroValue5
  t9 := Tryz.underlying9
  a9 := Tryz.isAgg9
  z9 := Tryz.sizeOf9
  v9 := Tryz.zeroValue9
  t28 := Tryz.underlying27
  a28 := Tryz.isAgg27
  z28 := Tryz.sizeOf27
  v28 := Tryz.zeroValue27
  t46 := Tryz.underlying65
  a46 := Tryz.isAgg65
  z46 := Tryz.sizeOf65
  v46 := Tryz.zeroValue65
  t51 := Tryz.underlying88
  a51 := Tryz.isAgg88
  z51 := Tryz.sizeOf88
  v51 := Tryz.zeroValue88
  t53 := Tryz.underlying90
  a53 := Tryz.isAgg90
  z53 := Tryz.sizeOf90
  v53 := Tryz.zeroValue90
  t131 := Tryz.underlying85
  a131 := Tryz.isAgg85
  z131 := Tryz.sizeOf85
  v131 := Tryz.zeroValue85
  t182 := Tryz.underlying79
  a182 := Tryz.isAgg79
  z182 := Tryz.sizeOf79
  v182 := Tryz.zeroValue79
  t183 := Tryz.underlying80
  a183 := Tryz.isAgg80
  z183 := Tryz.sizeOf80
  v183 := Tryz.zeroValue80
  t218 := Tryz.underlying100
  a218 := Tryz.isAgg100
  z218 := Tryz.sizeOf100
  v218 := Tryz.zeroValue100
  t222 := Tryz.underlying104
  a222 := Tryz.isAgg104
  z222 := Tryz.sizeOf104
  v222 := Tryz.zeroValue104
  t228 := Tryz.underlying126
  a228 := Tryz.isAgg126
  z228 := Tryz.sizeOf126
  v228 := Tryz.zeroValue126
  t229 := Tryz.underlying127
  a229 := Tryz.isAgg127
  z229 := Tryz.sizeOf127
  v229 := Tryz.zeroValue127
end Go.Proofs.YtaghdbbcadhjdaaGreatDoor

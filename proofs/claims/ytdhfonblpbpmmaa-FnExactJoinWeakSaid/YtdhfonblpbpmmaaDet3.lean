/- Whether a group is finite: the program's side. -/
import Derived.Test.YtdhfonblpbpmmaaDet2
set_option linter.unusedVariables false
set_option linter.unusedSimpArgs false
namespace Go.Proofs.Ytdhfonblpbpmmaa
open Go Go.Aw Go.Cox

theorem setL_letters : ∀ k : Nat, k < 16 → ∀ n : Nat, n ≤ 4 → k < 2 ^ n → ∀ x ∈ setL k, 0 ≤ x ∧ x < (n : Int) := by decide
theorem setL_len : ∀ k : Nat, k < 16 → (setL k).length ≤ 4 := by decide
theorem pow_le16 : ∀ n : Nat, n ≤ 4 → 2 ^ n ≤ 16 := by decide
theorem pick_sq {c : List (List Int)} (hc : CartanP c) {s : List Int} (hs : letters c.length s) : Sq s.length (pick c s) := by
  refine ⟨by simp [pick], fun r hr => ?_⟩
  simp only [pick, List.mem_map] at hr
  obtain ⟨i, hi, rfl⟩ := hr
  refine ⟨by simp, fun x hx => ?_⟩
  simp only [List.mem_map] at hx
  obtain ⟨j, hj, rfl⟩ := hx
  obtain ⟨a1, a2⟩ := hs i hi
  obtain ⟨b1, b2⟩ := hs j hj
  have := ent_le hc i.toNat j.toNat (by omega) (by omega)
  omega
theorem det_len {m : List (List Int)} {n : Nat} (h : m.length = n) : detN m.length m = detN n m := by rw [h]

/-- The minors of all sets of points, as far as k. -/
def minors (c : List (List Int)) (k : Nat) : List Int := (List.range k).map fun i => mn c (i + 1)
theorem minors_succ (c : List (List Int)) (k : Nat) : minors c k ++ [mn c (k + 1)] = minors c (k + 1) := by simp [minors, List.range_succ]
theorem minors_len (c : List (List Int)) (k : Nat) : (minors c k).length = k := by simp [minors]
theorem minors_get (c : List (List Int)) (n k : Nat) (h : k < n) : (minors c n).getD k 0 = mn c (k + 1) := by simp [minors, List.getD_eq_getElem?_getD, h]
noncomputable def pmin (c : List (List Int)) : List Int := if isC c then minors c (2 ^ c.length - 1) else []
theorem shl_one : ∀ n : Nat, n ≤ 4 → IntKind.i64.wrap (1 * 2 ^ min n IntKind.i64.bits) = ((2 ^ n : Nat) : Int) := by decide

theorem c_impl_PrincipalMinors (c : List (List Int)) : FunA B 85 [.sl false (.row false) c] (fun rs o => rs = [.own 0 0] ∧ o = [.arr .int (pmin c) 0 true]) := by
  refine FunA.walk B_ok (fn := Try.f85) (fun vs w => Try.call85 vs w) Try.func85 rfl (by rw [Try.ntmps85]; simp) (fun C hC hP hT hΓ hbt hfn hpin hfin => ?_); have hX := BX; rw [← hΓ, ← hbt.1, ← hbt.2] at hX; rw [Try.ntmps85]; simp only [AW6, simprocAttr, hX]
  refine Run.nq ?_; refine Run.regionW hC (fun K hK => ?_); simp only [AW6, simprocAttr, hX]; (repeat (with_reducible refine And.intro ?_ ?_); exact vc0); refine hK _ ?_; clear hK K; refine Run.nq ?_
  refine Run.nq ?_; refine Run.regionW hC (fun K hK => ?_); simp only [AW6, simprocAttr, hX]; (repeat (with_reducible refine And.intro ?_ ?_); exact vc0); refine hK _ ?_; clear hK K; refine Run.nq ?_
  refine Run.nq ?_; refine Run.regionW hC (fun K hK => ?_); simp only [AW6, simprocAttr, hX]; (repeat (with_reducible refine And.intro ?_ ?_); exact vc0)
  refine FunA.callW hP hT (c_impl_IsCartan c) (by simp only [AW6, simprocAttr]) ?_
  rintro rs o ⟨rfl, rfl⟩
  (try simp only [AW6, simprocAttr, hX]); (repeat (with_reducible refine And.intro ?_ ?_); exact vc0)
  (repeat (with_reducible refine And.intro ?_ ?_); exact vc0); refine hK _ ?_; clear hK K; refine Run.nq ?_
  refine Run.nq ?_; refine Run.condW (by simp only [AW6, simprocAttr, hX]; rfl) (by simp only [AW6, simprocAttr, hX]) ?_ ?_
  · intro hb
    have hb : isC c = false := by simpa using hb
    have hp : pmin c = [] := by simp [pmin, hb]
    refine Run.nq ?_; refine Run.regionW hC (fun K hK => ?_); simp only [AW6, simprocAttr, hX]; (repeat (with_reducible refine And.intro ?_ ?_); exact vc0); refine hK _ ?_; clear hK K; refine Run.nq ?_
    refine Run.retW [2] (by decide) (by rw [hfn]; rfl) (by simp only [AW6, simprocAttr, hX]; rfl) (by simp only [AW6, simprocAttr, hX]) (hfin _ _ rfl rfl ?_)
    exact ⟨rfl, by rw [hp]⟩
  · intro hb
    have hb : isC c = true := by simpa using hb
    have hc := isC_iff.1 hb
    have hn := hc.2.1
    have hn1 := hc.1
    have hsh := shl_one c.length hn
    have hpw := pow_le16 c.length hn
    have hp1 : 1 ≤ 2 ^ c.length := Nat.one_le_two_pow
    refine Run.nq ?_; refine Run.regionW hC (fun K hK => ?_); simp only [AW6, simprocAttr, hX]; (repeat (with_reducible refine And.intro ?_ ?_); exact vc0); refine hK _ ?_; clear hK K; refine Run.nq ?_
    refine Run.le (Le.sub (fr' := [(0, true, .v (.sl false (.row false) c)), (2, true, .v .nils), (3, true, .v (.own 0 0)), (4, true, .v (.int .i64 ((0 + 1 : Nat))))]) rfl (by simp only [AW6, simprocAttr]; try simp)) ?_
    refine Run.loopI (X := Nat) (fun k => ⟨26, [(0, true, .v (.sl false (.row false) (c))), (2, true, .v (.nils)), (3, true, .v (.own 0 0)), (4, true, .v (.int .i64 (((k + 1 : Nat)))))], [.arr .int ((minors c k)) 0 true]⟩) (fun k => k + 1 ≤ 2 ^ c.length) (fun k => 2 ^ c.length - k) (0) (by omega) ?_ ?_
    · exact Le.sub (by first | rfl | simp) (by simp only [AW6, simprocAttr, hX]; try simp <;> try (first | rfl | exact ⟨rfl, rfl⟩ | exact ⟨rfl, rfl, rfl⟩))
    rintro k hk ih
    try simp only []
    have hml := minors_len c k
    refine Run.nq ?_; refine Run.regionW hC (fun K hK => ?_); simp only [AW6, simprocAttr, hX]; (repeat (with_reducible refine And.intro ?_ ?_); exact vc0)
    simp only [hsh]
    (repeat (with_reducible refine And.intro ?_ ?_); exact vc0); refine hK _ ?_; clear hK K; refine Run.nq ?_
    refine Run.nq ?_; refine Run.condW (by simp only [AW6, simprocAttr, hX]; rfl) (by simp only [AW6, simprocAttr, hX]) ?_ ?_
    · intro h
      have h : k + 1 < 2 ^ c.length := Int.ofNat_lt.1 (of_decide_eq_true h)
      have hl := setL_letters (k + 1) (by omega) c.length hn h
      have hll := setL_len (k + 1) (by omega)
      have hsq := pick_sq hc hl
      refine Run.nq ?_; refine Run.regionW hC (fun K hK => ?_); simp only [AW6, simprocAttr, hX]; (repeat (with_reducible refine And.intro ?_ ?_); exact vc0)
      refine FunA.callW hP hT (c_impl_setOf (k + 1) (by omega)) (by simp only [AW6, simprocAttr]) ?_
      rintro rs o ⟨rfl, rfl⟩
      (try simp only [AW6, simprocAttr, hX]); (repeat (with_reducible refine And.intro ?_ ?_); exact vc0)
      refine FunA.callW hP hT (c_impl_picked c (setL (k + 1)) hn hc.2.2.1 hl (by omega)) (by simp only [AW6, simprocAttr]) ?_
      rintro rs o ⟨rfl, ys, hy, rfl⟩
      (try simp only [AW6, simprocAttr, hX]); (repeat (with_reducible refine And.intro ?_ ?_); exact vc0)
      refine FunA.callW hP hT (c_impl_determinant (setL (k + 1)).length (pick c (setL (k + 1))) hll hsq) (by simp only [AW6, simprocAttr]; exact hy.symm) ?_
      rintro rs o ⟨rfl, rfl⟩
      (try simp only [AW6, simprocAttr, hX]); (repeat (with_reducible refine And.intro ?_ ?_); exact vc0)
      (repeat (with_reducible refine And.intro ?_ ?_); exact vc0); refine hK _ ?_; clear hK K; refine Run.nq ?_
      refine Run.nq ?_; refine Run.regionW hC (fun K hK => ?_); simp (disch := omega) only [wrap_id, AW6, simprocAttr, hX]; (repeat (with_reducible refine And.intro ?_ ?_); exact vc0); refine hK _ ?_; clear hK K; refine Run.nq ?_
      refine Run.reK hpin [0, 2, 3, 4] [0] (by decide) (by simp) ?_; simp only [AR, AW6, simprocAttr]
      refine Run.le ?_ (ih (k + 1) (by omega) (by omega))
      exact Le.sub (by rw [← minors_succ]; rfl) (by simp only [AW6, simprocAttr]; try simp)
    · intro h
      have h : k + 1 = 2 ^ c.length := by have h := of_decide_eq_false h; rw [Int.ofNat_lt] at h; omega
      have hp : pmin c = minors c k := by simp only [pmin, hb, if_true]; rw [show 2 ^ c.length - 1 = k by omega]
      refine Run.exit rfl ?_; refine Run.nq ?_
      refine Run.nq ?_; refine Run.regionW hC (fun K hK => ?_); simp only [AW6, simprocAttr, hX]; (repeat (with_reducible refine And.intro ?_ ?_); exact vc0); refine hK _ ?_; clear hK K; refine Run.nq ?_
      refine Run.retW [2] (by decide) (by rw [hfn]; rfl) (by simp only [AW6, simprocAttr, hX]; rfl) (by simp only [AW6, simprocAttr, hX]) (hfin _ _ rfl rfl ?_)
      exact ⟨rfl, by rw [hp]⟩

theorem c_impl_WitnessOf (c : List (List Int)) : FunA B 68 [.sl false (.row false) c] (fun rs o => rs = [.own 0 0] ∧ ∃ xs, (xs = [] ↔ ∀ k, k < (pmin c).length → 0 < (pmin c).getD k 0) ∧ xs.length ≤ 4 ∧ o = [.arr .int xs 0 true]) := by
  have hpl : (pmin c).length ≤ 15 := by
    unfold pmin
    split
    · rename_i hb
      have hc := isC_iff.1 hb
      have := pow_le16 c.length hc.2.1
      rw [minors_len]; omega
    · simp
  refine FunA.walk B_ok (fn := Try.f68) (fun vs w => Try.call68 vs w) Try.func68 rfl (by rw [Try.ntmps68]; simp) (fun C hC hP hT hΓ hbt hfn hpin hfin => ?_); have hX := BX; rw [← hΓ, ← hbt.1, ← hbt.2] at hX; rw [Try.ntmps68]; simp only [AW6, simprocAttr, hX]
  refine Run.nq ?_; refine Run.regionW hC (fun K hK => ?_); simp only [AW6, simprocAttr, hX]; (repeat (with_reducible refine And.intro ?_ ?_); exact vc0); refine hK _ ?_; clear hK K; refine Run.nq ?_
  refine Run.nq ?_; refine Run.regionW hC (fun K hK => ?_); simp only [AW6, simprocAttr, hX]; (repeat (with_reducible refine And.intro ?_ ?_); exact vc0)
  refine FunA.callW hP hT (c_impl_PrincipalMinors c) (by simp only [AW6, simprocAttr]) ?_
  rintro rs o ⟨rfl, rfl⟩
  (try simp only [AW6, simprocAttr, hX]); (repeat (with_reducible refine And.intro ?_ ?_); exact vc0)
  (repeat (with_reducible refine And.intro ?_ ?_); exact vc0); refine hK _ ?_; clear hK K; refine Run.nq ?_
  refine Run.loopI (X := Nat) (fun k => ⟨20, [(0, true, .v (.sl false (.row false) (c))), (2, true, .v (.nils)), (6, true, .v (.own 0 0)), (7, true, .v (.int .i64 ((pmin c).length))), (8, true, .v (.int .i64 (k)))], [.arr .int ((pmin c)) 0 true]⟩) (fun k => k ≤ (pmin c).length ∧ ∀ j, j < k → 0 < (pmin c).getD j 0) (fun k => (pmin c).length - k) (0) (⟨Nat.zero_le _, fun j hj => by omega⟩) ?_ ?_
  · exact Le.sub (by first | rfl | simp) (by simp only [AW6, simprocAttr, hX]; try simp <;> try (first | rfl | exact ⟨rfl, rfl⟩ | exact ⟨rfl, rfl, rfl⟩))
  rintro k ⟨hk, hpos⟩ ih
  try simp only []
  refine Run.nq ?_; refine Run.regionW hC (fun K hK => ?_); simp only [AW6, simprocAttr, hX]; (repeat (with_reducible refine And.intro ?_ ?_); exact vc0); refine hK _ ?_; clear hK K; refine Run.nq ?_
  refine Run.nq ?_; refine Run.condW (by simp only [AW6, simprocAttr, hX]; rfl) (by simp only [AW6, simprocAttr, hX]) ?_ ?_
  · intro h
    have h : k < (pmin c).length := by simpa using h
    refine Run.nq ?_; refine Run.regionW hC (fun K hK => ?_); simp only [AW6, simprocAttr, hX]; (repeat (with_reducible refine And.intro ?_ ?_); exact vc0); refine hK _ ?_; clear hK K; refine Run.nq ?_
    refine Run.nq ?_; refine Run.regionW hC (fun K hK => ?_); simp only [AW6, simprocAttr, hX]; (repeat (with_reducible refine And.intro ?_ ?_); exact vc0); refine hK _ ?_; clear hK K; refine Run.nq ?_
    refine Run.nq ?_; refine Run.condW (by simp only [AW6, simprocAttr, hX]; rfl) (by simp only [AW6, simprocAttr, hX]) ?_ ?_
    · intro h2
      have h2 : (pmin c).getD k 0 ≤ 0 := by simpa using h2
      refine Run.nq ?_; refine Run.regionW hC (fun K hK => ?_); simp (disch := omega) only [wrap_id, AW6, simprocAttr, hX]; (repeat (with_reducible refine And.intro ?_ ?_); exact vc0)
      refine FunA.callW hP hT (c_impl_setOf (k + 1) (by omega)) (by simp only [AW6, simprocAttr]; simp) ?_
      rintro rs o ⟨rfl, rfl⟩
      (try simp only [AW6, simprocAttr, hX]); (repeat (with_reducible refine And.intro ?_ ?_); exact vc0)
      (repeat (with_reducible refine And.intro ?_ ?_); exact vc0); refine hK _ ?_; clear hK K; refine Run.nq ?_
      refine Run.reK hpin [2] [1] (by decide) (by simp) ?_; simp only [AR, AW6, simprocAttr]
      refine Run.retW [2] (by decide) (by rw [hfn]; rfl) (by simp only [AW6, simprocAttr, hX]; rfl) (by simp only [AW6, simprocAttr, hX]) (hfin _ _ rfl rfl ?_)
      refine ⟨rfl, setL (k + 1), ⟨fun he => absurd he (setL_ne (k + 1) (by omega) (by omega)), fun hall => ?_⟩, setL_len (k + 1) (by omega), rfl⟩
      have := hall k h
      omega
    · intro h2
      have h2 : 0 < (pmin c).getD k 0 := by simp at h2; simpa [List.getD_eq_getElem?_getD] using h2
      refine Run.nq ?_; refine Run.regionW hC (fun K hK => ?_); simp (disch := omega) only [wrap_id, AW6, simprocAttr, hX]; (repeat (with_reducible refine And.intro ?_ ?_); exact vc0); refine hK _ ?_; clear hK K; refine Run.nq ?_
      refine Run.le ?_ (ih (k + 1) ⟨h, fun j hj => by rcases Nat.lt_or_ge j k with q | q; exact hpos j q; rw [show j = k by omega]; exact h2⟩ (by omega))
      exact Le.sub (by rfl) (by simp only [AW6, simprocAttr]; try simp)
  · intro h
    have h : k = (pmin c).length := by simp at h; omega
    subst h
    refine Run.exit rfl ?_; refine Run.nq ?_
    refine Run.nq ?_; refine Run.regionW hC (fun K hK => ?_); simp only [AW6, simprocAttr, hX]; (repeat (with_reducible refine And.intro ?_ ?_); exact vc0); refine hK _ ?_; clear hK K; refine Run.nq ?_
    refine Run.reK hpin [2] [1] (by decide) (by simp) ?_; simp only [AR, AW6, simprocAttr]
    refine Run.retW [2] (by decide) (by rw [hfn]; rfl) (by simp only [AW6, simprocAttr, hX]; rfl) (by simp only [AW6, simprocAttr, hX]) (hfin _ _ rfl rfl ?_)
    exact ⟨rfl, [], ⟨fun _ => hpos, fun _ => rfl⟩, by simp, rfl⟩

open Classical in
/-- The group is finite. -/
noncomputable def isF (c : List (List Int)) : Bool := decide (FinP c)
theorem isF_iff {c : List (List Int)} : isF c = true ↔ FinP c := by simp [isF]
theorem isF_pmin {c : List (List Int)} (hb : isC c = true) {xs : List Int} (h : xs = [] ↔ ∀ k, k < (pmin c).length → 0 < (pmin c).getD k 0) : isF c = ((xs.length : Int) == 0) := by
  have e : FinP c ↔ xs = [] := by
    rw [h]
    have hp : pmin c = minors c (2 ^ c.length - 1) := by simp [pmin, hb]
    rw [hp, minors_len]
    constructor
    · rintro ⟨_, hf⟩ k hk
      rw [minors_get c _ k hk]
      exact hf (k + 1) (by omega) (by omega)
    · intro hf
      refine ⟨isC_iff.1 hb, fun k h1 h2 => ?_⟩
      have := hf (k - 1) (by omega)
      rw [minors_get c _ _ (by omega), show k - 1 + 1 = k by omega] at this
      exact this
  cases hx : isF c with
  | true =>
    have := e.1 (isF_iff.1 hx)
    subst this; rfl
  | false =>
    have hn : xs ≠ [] := fun hh => by rw [isF_iff.2 (e.2 hh)] at hx; cases hx
    have : xs.length ≠ 0 := fun hh => hn (List.eq_nil_of_length_eq_zero hh)
    symm
    simp [hn]
theorem isF_not {c : List (List Int)} (hb : isC c = false) : isF c = false := by
  cases hx : isF c with
  | false => rfl
  | true => rw [isC_true (isF_iff.1 hx).1] at hb; cases hb

theorem c_impl_IsFinite (c : List (List Int)) : FunA B 43 [.sl false (.row false) c] (fun rs o => rs = [.bool (isF c)] ∧ o = []) := by
  refine FunA.walk B_ok (fn := Try.f43) (fun vs w => Try.call43 vs w) Try.func43 rfl (by rw [Try.ntmps43]; simp) (fun C hC hP hT hΓ hbt hfn hpin hfin => ?_); have hX := BX; rw [← hΓ, ← hbt.1, ← hbt.2] at hX; rw [Try.ntmps43]; simp only [AW6, simprocAttr, hX]
  refine Run.nq ?_; refine Run.regionW hC (fun K hK => ?_); simp only [AW6, simprocAttr, hX]; (repeat (with_reducible refine And.intro ?_ ?_); exact vc0); refine hK _ ?_; clear hK K; refine Run.nq ?_
  refine Run.nq ?_; refine Run.regionW hC (fun K hK => ?_); simp only [AW6, simprocAttr, hX]; (repeat (with_reducible refine And.intro ?_ ?_); exact vc0)
  refine FunA.callW hP hT (c_impl_IsCartan c) (by simp only [AW6, simprocAttr]) ?_
  rintro rs o ⟨rfl, rfl⟩
  (try simp only [AW6, simprocAttr, hX]); (repeat (with_reducible refine And.intro ?_ ?_); exact vc0)
  cases hb : isC c with
  | false =>
    have hf := isF_not hb
    (try simp only [AW6, simprocAttr, hX]); (repeat (with_reducible refine And.intro ?_ ?_); exact vc0)
    refine .inl (CallG.off (.sl false .int []) ?_)
    (try simp only [AW6, simprocAttr, hX]); (repeat (with_reducible refine And.intro ?_ ?_); exact vc0)
    (repeat (with_reducible refine And.intro ?_ ?_); exact vc0); refine hK _ ?_; clear hK K; refine Run.nq ?_
    refine Run.retW [2] (by decide) (by rw [hfn]; rfl) (by simp only [AW6, simprocAttr, hX]; rfl) (by simp only [AW6, simprocAttr, hX]) (hfin _ _ rfl rfl ?_)
    simp [hf]
  | true =>
    refine .inr ⟨rfl, ?_⟩
    refine FunA.callW hP hT (c_impl_WitnessOf c) (by simp only [AW6, simprocAttr]) ?_
    rintro rs o ⟨rfl, xs, hxs, hl, rfl⟩
    have hf := isF_pmin hb hxs
    (try simp only [AW6, simprocAttr, hX]); (repeat (with_reducible refine And.intro ?_ ?_); exact vc0)
    (repeat (with_reducible refine And.intro ?_ ?_); exact vc0); refine hK _ ?_; clear hK K; refine Run.nq ?_
    refine Run.reK hpin [2] [] (by decide) (by simp) ?_; simp only [AR, AW6, simprocAttr]
    refine Run.retW [2] (by decide) (by rw [hfn]; rfl) (by simp only [AW6, simprocAttr, hX]; rfl) (by simp only [AW6, simprocAttr, hX]) (hfin _ _ rfl rfl ?_)
    simp [hf]
end Go.Proofs.Ytdhfonblpbpmmaa

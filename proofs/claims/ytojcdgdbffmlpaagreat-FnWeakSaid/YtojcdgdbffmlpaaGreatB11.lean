/- The Bruhat order on both sides. -/
import Derived.Test.YtojcdgdbffmlpaaGreatB10
import Derived.Test.YtojcdgdbffmlpaaGreatB9
import Derived.Test.YtojcdgdbffmlpaaGreatB7
import Derived.WalkKit
import Derived.Lib.Walk
import Derived.Lib.SliceRun
import Derived.Lib.AppendZeros
set_option linter.unusedVariables false
set_option linter.unusedSimpArgs false
namespace Go.Proofs.YtojcdgdbffmlpaaGreat
open Go Go.Aw Go.Cox
noncomputable def brB (c : List (List Int)) (u v : List Int) : Bool := wordB c u && wordB c v && belB c (imageL c u) (redL c v)
theorem belV_snoc (c : List (List Int)) : ∀ (w x : List Int) (i : Int), belV c x (w ++ [i]) = if (belV c x w).getD i.toNat 0 < 0 then reflL c i (belV c x w) else belV c x w
  | [], x, i => rfl
  | j :: w, x, i => by
    simp only [List.cons_append, belV]
    split <;> exact belV_snoc c w _ i
theorem subL_snoc (c : List (List Int)) : ∀ (w x : List Int) (k : Int) (i : Int), subL c x (w ++ [i]) k = if (belV c x w).getD i.toNat 0 < 0 then subL c x w k ++ [k + w.length] else subL c x w k
  | [], x, k, i => by simp [subL, belV]
  | j :: w, x, k, i => by
    simp only [List.cons_append, subL, belV]
    have e : k + ((j :: w).length : Nat) = k + 1 + (w.length : Int) := by simp; omega
    split
    · rw [subL_snoc c w _ (k + 1) i, e]
      split <;> rfl
    · rw [subL_snoc c w _ (k + 1) i, e]
theorem subL_le (c : List (List Int)) : ∀ (w x : List Int) (k : Int), (subL c x w k).length ≤ w.length
  | [], x, k => by simp [subL]
  | j :: w, x, k => by
    simp only [subL]
    split
    · have := subL_le c w (reflL c j x) (k + 1); simp; omega
    · have := subL_le c w x (k + 1); simp; omega
theorem belV_length (c : List (List Int)) : ∀ (w x : List Int), (belV c x w).length = x.length
  | [], x => rfl
  | j :: w, x => by
    simp only [belV]
    split
    · rw [belV_length c w, reflL_length]
    · exact belV_length c w x
theorem bel_bd {c : List (List Int)} (hc : CartanP c) : ∀ (w : List Int) {x : List Int}, letters c.length w → (∃ q, letters c.length q ∧ q.length + w.length ≤ 31 ∧ x = imageL c q) → Bd 9223372036854775807 (belV c x w)
  | [], x, _, ⟨q, h1, h2, h3⟩ => by
    simp only [belV]
    rw [h3]
    exact (image_bd hc h1 (by simp at h2; omega)).mono (by decide)
  | j :: w, x, hw, ⟨q, h1, h2, h3⟩ => by
    obtain ⟨hj, hw⟩ := letters_cons.1 hw
    simp only [List.length_cons] at h2
    simp only [belV]
    split
    · exact bel_bd hc w hw ⟨j :: q, letters_cons.2 ⟨hj, h1⟩, by simp; omega, by rw [h3]; rfl⟩
    · exact bel_bd hc w hw ⟨q, h1, by omega, h3⟩
theorem c_impl_subword (c : List (List Int)) (x w : List Int) (hc : CartanP c) (hx : x.length = c.length) (hw : letters c.length w) (hl : w.length ≤ 31) (hB : ∀ m, Bd 9223372036854775807 (belV c x (w.take m))) :
    FunA B 111 [.sl false (.row false) c, .sl false .int x, .sl false .int w] (fun rs o => rs = [.own 0 0, .bool (belB c x w)] ∧ o = [.arr .int (subL c x w 0) 0 true]) := by
  have hn := hc.2.1
  refine FunA.walk B_ok (fn := Tryz.f111) (fun vs w => Tryz.call111 vs w) Tryz.func111 rfl (by rw [Tryz.ntmps111]; simp) (fun C hC hP hT hΓ hbt hfn hpin hfin => ?_); have hX := BX; rw [← hΓ, ← hbt.1, ← hbt.2] at hX; rw [Tryz.ntmps111]; simp only [AW7, simprocAttr, hX]
  refine Run.R ?_
  refine Run.R ?_
  refine Run.R ?_
  refine Run.R ?_
  refine Run.le (Le.re (obs' := [.arr .int x 0 true, .arr .int [] 0 true]) hpin [0, 1] [(0, true, .sl false (.row false) c), (1, true, .own 0 0), (6, true, .nils), (7, true, .bool false), (8, true, .own 1 0), (15, true, .sl false .int w), (16, true, .int .i64 w.length), (17, true, .int .i64 0)] rfl (by simp [leOs, leO_arr, oAt]) (by refine ⟨⟨_, rfl, ?_⟩, ⟨_, rfl, ?_⟩, ⟨_, rfl, ?_⟩, ⟨_, rfl, ?_⟩, ⟨_, rfl, ?_⟩, ⟨_, rfl, ?_⟩, ⟨_, rfl, ?_⟩, ⟨_, rfl, ?_⟩, trivial⟩ <;> simp [leAV, oAt, genO])) ?_
  simp only [frV_cons, frV_nil]
  refine Run.loopI (X := Nat × Nat) (fun m => ⟨40, [(0, true, .v (.sl false (.row false) c)), (1, true, .v (.own 0 0)), (6, true, .v .nils), (7, true, .v (.bool false)), (8, true, .v (.own 1 m.2)), (15, true, .v (.sl false .int w)), (16, true, .v (.int .i64 w.length)), (17, true, .v (.int .i64 m.1))], [.arr .int (belV c x (w.take m.1)) 0 true, .arr .int (subL c x (w.take m.1) 0) m.2 true]⟩) (fun m => m.1 ≤ w.length) (fun m => w.length - m.1) (0, 0) (Nat.zero_le _) ?_ ?_
  · exact Le.sub (by rfl) (by simp only [AW7, simprocAttr, hX]; try simp)
  rintro ⟨m, g⟩ hm ih
  simp only [] at hm ⊢
  have hbl := belV_length c (w.take m) x
  have hsl := subL_le c (w.take m) x 0
  simp only [List.length_take] at hsl
  refine Run.R ?_
  refine Run.nq ?_; refine Run.cW ?_ ?_
  · intro h
    have h : m < w.length := by simpa using h
    have hlet := letters_getD.1 hw m h
    have hsn := belV_snoc c (w.take m) x (w.getD m 0)
    have hss := subL_snoc c (w.take m) x 0 (w.getD m 0)
    rw [take_snoc 0 w m h] at hsn hss
    have e2 : (0 : Int) + ((w.take m).length : Nat) = (m : Int) := by simp; omega
    rw [e2] at hss
    refine Run.R ?_
    refine Run.R ?_
    refine Run.nq ?_; refine Run.cW ?_ ?_
    · intro hx2
      have hx2 : (belV c x (w.take m)).getD (w.getD m 0).toNat 0 < 0 := by simpa using hx2
      rw [if_pos hx2] at hsn hss
      have hB' := hB (m + 1)
      rw [hsn] at hB'
      refine Run.nq ?_; refine Run.regionW hC (fun K hK => ?_); refine wW ?_
      refine FunM.call hP hT (c_impl_reflected c (w.getD m 0) (belV c x (w.take m)) hc (by omega) hlet hB') 0 0 (by simp only [AW7, simprocAttr]; rfl) (by simp) rfl (by simp only [AW7, simprocAttr]; try simp) ?_
      rintro rs o' obs' ⟨rfl, hh⟩
      obtain ⟨rfl, rfl⟩ := List.cons.inj hh
      refine wW ?_
      refine wE ?_; clear hK K
      refine Run.R ?_
      refine Run.RW ?_
      refine Run.le ?_ (ih (m + 1, g + 1) h (by simp only []; omega))
      exact Le.cut0 hpin [_] (by rw [hsn, hss]; rfl) (by simp only [AW7, simprocAttr]; try simp) rfl
    · intro hx2
      have hx2 : ¬ (belV c x (w.take m)).getD (w.getD m 0).toNat 0 < 0 := by simpa using hx2
      rw [if_neg hx2] at hsn hss
      refine Run.RW ?_
      refine Run.le ?_ (ih (m + 1, g) h (by simp only []; omega))
      exact Le.sub (by rw [hsn, hss]) (by simp only [AW7, simprocAttr]; try simp)
  · intro h
    have h : m = w.length := by simp at h; omega
    subst h
    rw [List.take_length] at hbl ⊢
    refine Run.exit rfl ?_; refine Run.nq ?_
    refine Run.nq ?_; refine Run.regionW hC (fun K hK => ?_); refine wW ?_
    refine FunA.cW hP hT (c_impl_firstDescent (belV c x w) (by omega)) ?_
    rintro rs o ⟨rfl, rfl⟩
    refine wW ?_
    refine wE ?_; clear hK K
    refine Run.le (Le.re (obs' := [.arr .int (subL c x w 0) 0 true]) hpin [1] [(6, true, .own 0 0), (7, true, .bool (belB c x w))] rfl (by simp [leOs, leO_arr, oAt]) (by refine ⟨⟨_, rfl, ?_⟩, ⟨_, rfl, ?_⟩, trivial⟩ <;> simp [leAV, oAt, genO, belB])) ?_
    simp only [frV_cons, frV_nil]
    refine Run.rW [6, 7] (hfin _ _ rfl rfl ?_)
    exact ⟨rfl, rfl⟩
theorem sub_hB {c : List (List Int)} (hc : CartanP c) {u w : List Int} (hu : letters c.length u) (hw : letters c.length w) (hl : u.length + w.length ≤ 31) : ∀ m, Bd 9223372036854775807 (belV c (imageL c u) (w.take m)) :=
  fun m => bel_bd hc (w.take m) (letters_take hw m) ⟨u, hu, by simp; omega, rfl⟩
theorem c_impl_below (c : List (List Int)) (u v : List Int) (hu : WordP c u) (hv : WordP c v) :
    FunA B 106 [.sl false (.row false) c, .sl false .int u, .sl false .int v] (fun rs o => rs = [.bool (belB c (imageL c u) (redL c v))] ∧ o = []) := by
  obtain ⟨hc, h2, h3⟩ := hu
  obtain ⟨_, h5, h6⟩ := hv
  obtain ⟨b1, b2, b3, b4, b5⟩ := red_spec hc h6 (by omega)
  refine FunA.walk B_ok (fn := Tryz.f106) (fun vs w => Tryz.call106 vs w) Tryz.func106 rfl (by rw [Tryz.ntmps106]; simp) (fun C hC hP hT hΓ hbt hfn hpin hfin => ?_); have hX := BX; rw [← hΓ, ← hbt.1, ← hbt.2] at hX; rw [Tryz.ntmps106]; simp only [AW7, simprocAttr, hX]
  refine Run.R ?_
  refine Run.nq ?_; refine Run.regionW hC (fun K hK => ?_); refine wW ?_
  refine FunA.cW hP hT (c_impl_image c u hc h3 (by omega)) ?_
  rintro rs o ⟨rfl, rfl⟩
  refine wW ?_
  refine FunA.cW hP hT (c_impl_reduced c v hc h6 (by omega)) ?_
  rintro rs o ⟨rfl, rfl⟩
  refine wW ?_
  refine FunA.cW hP hT (c_impl_subword c (imageL c u) (redL c v) hc (imageL_length ..) b1 (by omega) (sub_hB hc h3 b1 (by omega))) ?_
  rintro rs o ⟨rfl, rfl⟩
  refine wW ?_
  refine wE ?_; clear hK K
  refine Run.R ?_
  refine Run.le (Le.cut0 hpin _ (fr' := [(6, true, .v (.bool (belB c (imageL c u) (redL c v))))]) (obs' := []) (List.nil_append _).symm (by simp only [AW7, simprocAttr]; try simp) rfl) ?_
  refine Run.rW [6] (hfin _ _ rfl rfl ?_)
  exact ⟨rfl, rfl⟩
theorem c_impl_IsBruhatBelow (c : List (List Int)) (u v : List Int) (hcl : c.length ≤ 1048576) :
    FunA B 9 [.sl false (.row false) c, .sl false .int u, .sl false .int v] (fun rs o => rs = [.bool (brB c u v)] ∧ o = []) := by
  refine FunA.walk B_ok (fn := Tryz.f9) (fun vs w => Tryz.call9 vs w) Tryz.func9 rfl (by rw [Tryz.ntmps9]; simp) (fun C hC hP hT hΓ hbt hfn hpin hfin => ?_); have hX := BX; rw [← hΓ, ← hbt.1, ← hbt.2] at hX; rw [Tryz.ntmps9]; simp only [AW7, simprocAttr, hX]
  refine Run.R ?_
  refine Run.nq ?_; refine Run.regionW hC (fun K hK => ?_); refine wW ?_
  refine FunA.cW hP hT (c_impl_IsWord c u) ?_
  rintro rs o ⟨rfl, rfl⟩
  cases hu : wordB c u with
  | false =>
    refine wW ?_
    refine .inl (CallG.off (.bool false) ?_)
    refine wW ?_
    refine .inl (CallG.off (.bool false) ?_)
    refine wW ?_
    refine wE ?_; clear hK K
    refine Run.rW [6] (hfin _ _ rfl rfl ?_)
    simp [brB, hu]
  | true =>
    refine wW ?_
    refine .inl (FunA.callG hP hT (c_impl_IsWord c v) (fun _ => rfl) (fun _ => by simp only [AW7, simprocAttr]) ?_)
    cases hv : wordB c v with
    | false =>
      refine wW ?_
      refine .inl (CallG.off (.bool false) ?_)
      refine wW ?_
      refine wE ?_; clear hK K
      refine Run.rW [6] (hfin _ _ rfl rfl ?_)
      simp [brB, hu, hv]
    | true =>
      refine wW ?_
      refine .inl (FunA.callG hP hT (c_impl_below c u v (wordB_iff.1 hu) (wordB_iff.1 hv)) (fun _ => rfl) (fun _ => by simp only [AW7, simprocAttr]) ?_)
      refine wW ?_
      refine wE ?_; clear hK K
      refine Run.rW [6] (hfin _ _ rfl rfl ?_)
      simp [brB, hu, hv]
end Go.Proofs.YtojcdgdbffmlpaaGreat
namespace Go.Proofs.YtojcdgdbffmlpaaGreat
open Go Go.Aw
theorem c_big (code : List Int) : FunA B 7 [.sl false .byte code] (fun rs o => rs = [.bool (decide (1048576 < code.length))] ∧ o = []) := by
  refine FunA.walk B_ok (fn := Tryz.f7) (fun vs w => Tryz.call7 vs w) Tryz.func7 rfl (by rw [Tryz.ntmps7]; simp) (fun C hC hP hT hΓ hbt hfn hpin hfin => ?_); have hX := BX; rw [← hΓ, ← hbt.1, ← hbt.2] at hX; rw [Tryz.ntmps7]; simp only [AW7, simprocAttr, hX]
  refine Run.R ?_
  refine Run.R ?_
  refine Run.rW [2] (hfin _ _ rfl rfl ?_)
  have : decide ((1048576 : Int) < (code.length : Int)) = decide (1048576 < code.length) := by
    by_cases h : 1048576 < code.length
    · rw [decide_eq_true h, decide_eq_true]; omega
    · rw [decide_eq_false h, decide_eq_false]; omega
  first | exact ⟨by rw [this], rfl⟩ | simpa using this
theorem c_sameInts (p q : List Int) (hp : p.length ≤ 4503599627370496) : FunA B 14 [.sl false .int p, .sl false .int q] (fun rs o => rs = [.bool (p == q)] ∧ o = []) := by
  refine FunA.walk B_ok (fn := Tryz.f14) (fun vs w => Tryz.call14 vs w) Tryz.func14 rfl (by rw [Tryz.ntmps14]; simp) (fun C hC hP hT hΓ hbt hfn hpin hfin => ?_); have hX := BX; rw [← hΓ, ← hbt.1, ← hbt.2] at hX; rw [Tryz.ntmps14]; simp only [AW7, simprocAttr, hX]
  refine Run.R ?_
  refine Run.R ?_
  refine Run.nq ?_; refine Run.cW ?_ ?_
  · intro hc
    refine Run.R ?_
    refine Run.rW [4] (hfin _ _ rfl rfl ?_)
    have : p ≠ q := fun h => by simp [h] at hc
    simpa using this
  intro hc
  have hl : p.length = q.length := by simp at hc; omega
  refine Run.R ?_
  refine Run.loopI (X := Nat) (fun i => ⟨26, [(0, true, .v (.sl false .int (p))), (1, true, .v (.sl false .int (q))), (5, true, .v (.int .i64 (i))), (4, true, .v (.bool (false)))], []⟩) (fun i => i ≤ p.length ∧ p.take i = q.take i) (fun i => p.length - i) (0) (⟨Nat.zero_le _, rfl⟩) ?_ ?_
  · exact Le.sub (by first | rfl | simp) (by simp only [AW7, simprocAttr, hX]; try simp <;> try (first | rfl | exact ⟨rfl, rfl⟩ | exact ⟨rfl, rfl, rfl⟩))
  rintro i ⟨hi, ht⟩ ih
  try simp only []
  refine Run.R ?_
  refine Run.nq ?_; refine Run.cW ?_ ?_
  · intro hc2
    have hc2 : i < p.length := by simpa using hc2
    refine Run.nq ?_; refine Run.regionD hC true [0,1,2,3,4,5,6,7,8] (by kernel_rfl) (fun K hK => ?_); simp only [AW7, simprocAttr, hX]; (repeat (with_reducible refine And.intro ?_ ?_); exact vc0); refine wE ?_; clear hK K
    refine Run.nq ?_; refine Run.cW ?_ ?_
    · intro hne
      refine Run.R ?_
      refine Run.rW [4] (hfin _ _ rfl rfl ?_)
      have : p ≠ q := fun h => by simp [h] at hne
      simpa using this
    · intro he
      have he : p.getD i 0 = q.getD i 0 := by simpa using he
      have ht2 : p.take (i + 1) = q.take (i + 1) := by rw [← take_snoc 0 p i hc2, ← take_snoc 0 q i (by omega), ht, he]
      refine Run.RW ?_
      refine Run.le ?_ (ih (i + 1) (⟨hc2, ht2⟩) (by (try simp only [List.length_append, List.length_cons, List.length_nil]); omega))
      exact Le.sub (by rfl) (by simp only [AW7, simprocAttr]; try simp)
  · intro hc2
    have hc2 : i = p.length := by simp at hc2; omega
    refine Run.exit rfl ?_; refine Run.nq ?_
    refine Run.R ?_
    refine Run.rW [4] (hfin _ _ rfl rfl ?_)
    subst hc2
    rw [List.take_length, hl, List.take_length] at ht
    simpa using ht
theorem c_spec_LengthOf (c : List (List Int)) (w : List Int) (hcl : c.length ≤ 1048576) :
    FunA B 19 [.sl false (.row false) c, .sl false .int w] (fun rs o => rs = [.int .i64 (if wordB c w = true then ((redL c w).length : Int) else -1)] ∧ o = []) := by
  refine FunA.walk B_ok (fn := Tryz.f19) (fun vs w => Tryz.call19 vs w) Tryz.func19 rfl (by rw [Tryz.ntmps19]; simp) (fun C hC hP hT hΓ hbt hfn hpin hfin => ?_); have hX := BX; rw [← hΓ, ← hbt.1, ← hbt.2] at hX; rw [Tryz.ntmps19]; simp only [AW7, simprocAttr, hX]
  refine Run.R ?_
  refine Run.nq ?_; refine Run.regionW hC (fun K hK => ?_); refine wW ?_
  refine FunA.cW hP hT (c_spec_NormalForm c w hcl) ?_
  rintro rs o ⟨rfl, rfl⟩
  refine wW ?_
  refine wE ?_; clear hK K
  refine Run.R ?_
  refine Run.nq ?_; refine Run.cW ?_ ?_
  · intro h
    have h : wordB c w = false := by simpa using h
    refine Run.R ?_
    refine Run.reK hpin [4] [] (by decide) (by simp) ?_; simp only [AR, AW7, simprocAttr]
    refine Run.rW [4] (hfin _ _ rfl rfl ?_)
    simp [h]
  intro h
  have h : wordB c w = true := by simpa using h
  refine Run.R ?_
  refine Run.reK hpin [4] [] (by decide) (by simp) ?_; simp only [AR, AW7, simprocAttr]
  refine Run.rW [4] (hfin _ _ rfl rfl ?_)
  simp [nfW, h]
theorem getD_take {α : Type} {d : α} {p q : List α} {i : Nat} (hp : i < p.length) (hq : i < q.length) (ht : p.take i = q.take i) (he : p.getD i d = q.getD i d) : p.take (i + 1) = q.take (i + 1) := by rw [← take_snoc d p i hp, ← take_snoc d q i hq, ht, he]
theorem c_sameWords (p q : List (List Int)) (hp : p.length ≤ 4503599627370496) (hr : ∀ r ∈ p, r.length ≤ 4503599627370496) : FunA B 31 [.sl false (.row false) p, .sl false (.row false) q] (fun rs o => rs = [.bool (p == q)] ∧ o = []) := by
  refine FunA.walk B_ok (fn := Tryz.f31) (fun vs w => Tryz.call31 vs w) Tryz.func31 rfl (by rw [Tryz.ntmps31]; simp) (fun C hC hP hT hΓ hbt hfn hpin hfin => ?_); have hX := BX; rw [← hΓ, ← hbt.1, ← hbt.2] at hX; rw [Tryz.ntmps31]; simp only [AW7, simprocAttr, hX]
  refine Run.R ?_
  refine Run.R ?_
  refine Run.nq ?_; refine Run.cW ?_ ?_
  · intro hc
    refine Run.R ?_
    refine Run.rW [4] (hfin _ _ rfl rfl ?_)
    have : p ≠ q := fun h => by simp [h] at hc
    simpa using this
  intro hc
  have hl : p.length = q.length := by simp at hc; omega
  refine Run.R ?_
  refine Run.loopI (X := Nat) (fun i => ⟨27, [(0, true, .v (.sl false (.row false) (p))), (1, true, .v (.sl false (.row false) (q))), (5, true, .v (.int .i64 (i))), (4, true, .v (.bool (false)))], []⟩) (fun i => i ≤ p.length ∧ p.take i = q.take i) (fun i => p.length - i) (0) (⟨Nat.zero_le _, rfl⟩) ?_ ?_
  · exact Le.sub (by first | rfl | simp) (by simp only [AW7, simprocAttr, hX]; try simp <;> try (first | rfl | exact ⟨rfl, rfl⟩ | exact ⟨rfl, rfl, rfl⟩))
  rintro i ⟨hi, ht⟩ ih
  try simp only []
  refine Run.R ?_
  refine Run.nq ?_; refine Run.cW ?_ ?_
  · intro hc2
    have hc2 : i < p.length := by simpa using hc2
    have hri : (p.getD i []).length ≤ 4503599627370496 := by
      rw [List.getD_eq_getElem?_getD, List.getElem?_eq_getElem hc2]
      exact hr _ (List.getElem_mem hc2)
    refine Run.nq ?_; refine Run.regionD hC true [0,1,2,3,4,5,6,7,8,9] (by kernel_rfl) (fun K hK => ?_); simp only [AW7, simprocAttr, hX]; (repeat (with_reducible refine And.intro ?_ ?_); exact vc0)
    refine FunA.callD hP hT (c_sameInts (p.getD i []) (q.getD i []) hri) (by simp only [AW7, simprocAttr]) ?_
    rintro rs o ⟨rfl, rfl⟩
    refine wW ?_
    refine wE ?_; clear hK K
    refine Run.nq ?_; refine Run.cW ?_ ?_
    · intro hne
      refine Run.R ?_
      refine Run.rW [4] (hfin _ _ rfl rfl ?_)
      have : p ≠ q := fun h => by simp [h] at hne
      simpa using this
    · intro he
      have he : p.getD i [] = q.getD i [] := by simpa using he
      have ht2 := getD_take hc2 (by omega) ht he
      refine Run.RW ?_
      refine Run.le ?_ (ih (i + 1) (⟨hc2, ht2⟩) (by (try simp only [List.length_append, List.length_cons, List.length_nil]); omega))
      exact Le.sub (by rfl) (by simp only [AW7, simprocAttr]; try simp)
  · intro hc2
    have hc2 : i = p.length := by simp at hc2; omega
    refine Run.exit rfl ?_; refine Run.nq ?_
    refine Run.R ?_
    refine Run.rW [4] (hfin _ _ rfl rfl ?_)
    subst hc2
    rw [List.take_length, hl, List.take_length] at ht
    simpa using ht
end Go.Proofs.YtojcdgdbffmlpaaGreat
namespace Go.Proofs.YtojcdgdbffmlpaaGreat
open Go Go.Aw
end Go.Proofs.YtojcdgdbffmlpaaGreat
namespace Go.Cox
variable {A : Mat} {n : Nat}
theorem act_lin (A : Mat) (N : Int) (u v : Vec) : ∀ w, act A w (fun k => u k + N * v k) = fun k => act A w u k + N * act A w v k
  | [] => rfl
  | i :: w => by
    rw [act_cons, act_lin A N u v w, act_cons, act_cons]
    funext k
    simp only [refl]
    grind
theorem play_len (hA : Cartan A n) {u u' : Vec} (hu : ∀ i, i < n → 0 < u i) (hu' : ∀ i, i < n → 0 < u' i) {w t t' : List Nat} (hw : ∀ i ∈ w, i < n) (h : Play A n (act A w u) t u) (h' : Play A n (act A w u') t' u') : t.length = t'.length := by
  have key : ∀ {u u' : Vec} {t t' : List Nat}, (∀ i, i < n → 0 < u i) → (∀ i, i < n → 0 < u' i) → Play A n (act A w u) t u → Play A n (act A w u') t' u' → t'.length ≤ t.length := by
    intro u u' t t' hu hu' h h'
    obtain ⟨s, hs, _, _, es⟩ := back hA hu w hw
    obtain ⟨s', hs', hl, _, _⟩ := back hA hu' s hs.mem
    rw [es] at hs'
    obtain ⟨r, _, hb⟩ := conv hA _ rfl hs (fun i hi => Int.le_of_lt (hu i hi)) h
    obtain ⟨r', _, hb'⟩ := conv hA _ rfl h (fun i hi => Int.le_of_lt (hu i hi)) hs
    obtain ⟨q, _, hq⟩ := conv hA _ rfl hs' (fun i hi => Int.le_of_lt (hu' i hi)) h'
    have h1 := hb.length
    have h2 := hq.length
    have h3 := hb'.length
    simp at h1 h2 h3
    omega
  exact Nat.le_antisymm (key hu' hu h' h) (key hu hu' h h')
theorem sign_indep (hA : Cartan A n) {u u' : Vec} (hu : ∀ i, i < n → 0 < u i) (hu' : ∀ i, i < n → 0 < u' i) {w : List Nat} (hw : ∀ i ∈ w, i < n) {j : Nat} (hj : j < n) (h : act A w u j < 0) : act A w u' j < 0 := by
  obtain ⟨t, ht, _, _, _⟩ := back hA hu w hw
  obtain ⟨t', ht', _, _, _⟩ := back hA hu' w hw
  have hnz := nonzero hA _ rfl ht' hu' j hj
  refine Classical.byContradiction fun hn => ?_
  have hpos : 0 < act A w u' j := by omega
  have e := play_len hA hu hu' hw ht ht'
  have hjw : ∀ i ∈ j :: w, i < n := fun i hi => by rcases List.mem_cons.1 hi with rfl | hi; exact hj; exact hw i hi
  obtain ⟨r, hr, hb⟩ := conv hA _ rfl ht (fun i hi => Int.le_of_lt (hu i hi)) (.cons hj h (.nil _))
  have h1 : Play A n (act A (j :: w) u') (j :: t') u' := .cons hj (by rw [act_cons, refl_self (hA.diag j hj)]; omega) (by rw [act_cons, refl_refl (hA.diag j hj)]; exact ht')
  have := play_len hA hu hu' hjw hr h1
  have h2 := hb.length
  simp at h2 this
  omega
theorem coh_pos (hA : Cartan A n) {u : Vec} (hu : ∀ i, i < n → 0 < u i) {w : List Nat} (hw : ∀ i ∈ w, i < n) {j : Nat} (hj : j < n) (h : 0 < act A w u j) {v : Vec} (hv : ∀ i, i < n → 0 ≤ v i) : 0 ≤ act A w v j := by
  refine Classical.byContradiction fun hn => ?_
  have hu' : ∀ i, i < n → 0 < (fun k => u k + (act A w u j + 1) * v k) i := fun i hi => by
    have h1 := hu i hi
    have h2 : 0 ≤ (act A w u j + 1) * v i := Int.mul_nonneg (by omega) (hv i hi)
    show 0 < u i + (act A w u j + 1) * v i
    omega
  have e := congrFun (act_lin A (act A w u j + 1) u v w) j
  have hneg : act A w (fun k => u k + (act A w u j + 1) * v k) j < 0 := by
    rw [e]
    have h3 : (act A w u j + 1) * act A w v j ≤ (act A w u j + 1) * (-1) := Int.mul_le_mul_of_nonneg_left (by omega) (by omega)
    omega
  have := sign_indep hA hu' hu hw hj hneg
  omega
theorem coh_neg (hA : Cartan A n) {u : Vec} (hu : ∀ i, i < n → 0 < u i) {w : List Nat} (hw : ∀ i ∈ w, i < n) {j : Nat} (hj : j < n) (h : act A w u j < 0) {v : Vec} (hv : ∀ i, i < n → 0 ≤ v i) : act A w v j ≤ 0 := by
  have e : act A (j :: w) u j = -act A w u j := by rw [act_cons, refl_self (hA.diag j hj)]
  have e2 : act A (j :: w) v j = -act A w v j := by rw [act_cons, refl_self (hA.diag j hj)]
  have := coh_pos hA hu (w := j :: w) (fun i hi => by rcases List.mem_cons.1 hi with rfl | hi; exact hj; exact hw i hi) hj (by omega) hv
  omega
theorem turn (hA : Cartan A n) {u : Vec} (hu : ∀ i, i < n → 0 < u i) {p : List Nat} (hp : ∀ i ∈ p, i < n) {s i : Nat} (hs : s < n) (hi : i < n) (h1 : 0 < act A p u s) (h2 : act A (p ++ [i]) u s < 0) : ∀ x, act A (s :: p) x = act A (p ++ [i]) x := by
  let v : Vec := fun k => if k = i then 0 else 1
  have hv : ∀ j, j < n → 0 ≤ v j := fun j _ => by show 0 ≤ (if j = i then (0 : Int) else 1); split <;> omega
  have hvi : v i = 0 := if_pos rfl
  have rv : refl A i v = v := by funext k; simp only [refl, hvi]; omega
  have hpi : ∀ j ∈ p ++ [i], j < n := fun j hj => by
    rcases List.mem_append.1 hj with hj | hj
    · exact hp j hj
    · simp at hj; rw [hj]; exact hi
  have f1 := coh_pos hA hu hp hs h1 hv
  have f2 := coh_neg hA hu hpi hs h2 hv
  rw [act_append] at f2
  have e0 : act A [i] v = v := rv
  rw [e0] at f2
  have f0 : act A p v s = 0 := by omega
  have hsp : act A (s :: p) v = act A p v := by
    rw [act_cons]; funext k; simp only [refl, f0]; omega
  have hyl : ∀ j ∈ p.reverse ++ (s :: p), j < n := fun j hj => by
    rcases List.mem_append.1 hj with hj | hj
    · exact hp j (by simpa using hj)
    · rcases List.mem_cons.1 hj with rfl | hj
      · exact hs
      · exact hp j hj
  have rp : ∀ x, act A p.reverse (act A p x) = x := fun x => by rw [act_reverse, run_act hA p hp]
  have rp2 : ∀ x, act A p (act A p.reverse x) = x := fun x => by rw [act_reverse, act_run hA p hp]
  have hyv : act A (p.reverse ++ (s :: p)) v = v := by rw [act_append, hsp, rp]
  obtain ⟨t, ht, _, _, et⟩ := back hA hu (p.reverse ++ (s :: p)) hyl
  have hti : ∀ x, act A (p.reverse ++ (s :: p)) x = refl A i x := by
    generalize hy0 : act A (p.reverse ++ (s :: p)) u = y0 at ht
    cases ht with
    | nil =>
      exfalso
      have := et u
      rw [act_nil, act_append] at this
      have h3 := congrArg (act A p) this
      rw [rp2, act_cons] at h3
      have h4 := congrFun h3 s
      rw [refl_self (hA.diag s hs)] at h4
      omega
    | @cons _ _ b t' hb hyb ht' =>
      have hbi : b = i := by
        have := coh_neg hA hu hyl hb (by rw [hy0]; exact hyb) hv
        rw [hyv] at this
        refine Classical.byContradiction fun hn => ?_
        have : v b = 1 := if_neg hn
        omega
      subst hbi
      cases ht' with
      | nil => intro x; rw [← et]; rfl
      | @cons _ _ b' t'' hb' hyb' _ =>
        exfalso
        have hyl2 : ∀ j ∈ b :: (p.reverse ++ (s :: p)), j < n := fun j hj => by
          rcases List.mem_cons.1 hj with rfl | hj
          · exact hb
          · exact hyl j hj
        have hyb2 : act A (b :: (p.reverse ++ (s :: p))) u b' < 0 := by rw [act_cons, hy0]; exact hyb'
        have := coh_neg hA hu hyl2 hb' hyb2 hv
        rw [act_cons, hyv, rv] at this
        have hbi' : b' = b := by
          refine Classical.byContradiction fun hn => ?_
          have : v b' = 1 := if_neg hn
          omega
        subst hbi'
        rw [act_cons, refl_self (hA.diag _ hb), hy0] at hyb2
        omega
  intro x
  have h5 := congrArg (act A p) (hti x)
  rw [act_append, rp2] at h5
  rw [h5, act_append]
  rfl
theorem exch (hA : Cartan A n) {u : Vec} (hu : ∀ i, i < n → 0 < u i) {s : Nat} (hs : s < n) : ∀ (w p : List Nat), (∀ i ∈ w, i < n) → (∀ i ∈ p, i < n) → 0 < act A p u s → act A (p ++ w) u s < 0 →
    ∃ a i b, w = a ++ i :: b ∧ ∀ x, act A (s :: (p ++ w)) x = act A (p ++ (a ++ b)) x
  | [], p, _, _, h1, h2 => by rw [List.append_nil] at h2; omega
  | i :: w, p, hw, hp, h1, h2 => by
    have hi := hw i (List.mem_cons_self ..)
    have hw' : ∀ j ∈ w, j < n := fun j hj => hw j (List.mem_cons_of_mem _ hj)
    have hpi : ∀ j ∈ p ++ [i], j < n := fun j hj => by
      rcases List.mem_append.1 hj with hj | hj
      · exact hp j hj
      · simp at hj; rw [hj]; exact hi
    obtain ⟨t, ht, _, _, _⟩ := back hA hu (p ++ [i]) hpi
    have hnz := nonzero hA _ rfl ht hu s hs
    have e : p ++ i :: w = p ++ [i] ++ w := by simp
    by_cases h3 : act A (p ++ [i]) u s < 0
    · refine ⟨[], i, w, rfl, fun x => ?_⟩
      have := turn hA hu hp hs hi h1 h3 (act A w x)
      rw [act_cons, e, act_append A (p ++ [i]) w, act_append A p ([] ++ w), ← turn hA hu hp hs hi h1 h3, act_cons, refl_refl (hA.diag s hs)]
      rfl
    · obtain ⟨a, j, b, h4, h5⟩ := exch hA hu hs w (p ++ [i]) hw' hpi (by omega) (by rw [← e]; exact h2)
      refine ⟨i :: a, j, b, by rw [h4]; rfl, fun x => ?_⟩
      rw [e, h5]
      simp
end Go.Cox
namespace Go.Proofs.YtojcdgdbffmlpaaGreat
open Go Go.Aw
theorem cmpN_neg (p q : List Int) : ∀ n i, cmpN q p n i = - cmpN p q n i
  | 0, i => rfl
  | n + 1, i => by
    have ih := cmpN_neg p q n (i + 1)
    simp only [cmpN]
    by_cases h1 : p.getD i 0 < q.getD i 0
    · rw [if_pos h1, if_neg (by omega), if_pos (by omega)]; rfl
    · by_cases h2 : p.getD i 0 > q.getD i 0
      · have h3 : q.getD i 0 < p.getD i 0 := h2
        simp only [h1, h2, h3, if_true, if_false]
      · rw [if_neg h1, if_neg h2, if_neg (by omega), if_neg (by omega)]; exact ih
theorem cmpW_neg (p q : List Int) : cmpW q p = - cmpW p q := by
  unfold cmpW
  by_cases h1 : p.length < q.length
  · rw [if_pos h1, if_neg (by omega), if_pos (by omega)]; rfl
  · by_cases h2 : p.length > q.length
    · have h3 : q.length < p.length := h2
      simp only [h1, h2, h3, if_true, if_false]
    · rw [if_neg h1, if_neg h2, if_neg (by omega), if_neg (by omega), show q.length = p.length by omega]; exact cmpN_neg p q _ 0
def StrictW (l : List (List Int)) : Prop := l.Pairwise fun p q => cmpW p q < 0
theorem StrictW.nil : StrictW [] := List.Pairwise.nil
theorem strict_ext : ∀ {a b : List (List Int)}, StrictW a → StrictW b → (∀ x, x ∈ a ↔ x ∈ b) → a = b
  | [], [], _, _, _ => rfl
  | [], y :: b, _, _, h => by have := (h y).2 (List.mem_cons_self ..); simp at this
  | x :: a, [], _, _, h => by have := (h x).1 (List.mem_cons_self ..); simp at this
  | x :: a, y :: b, ha, hb, h => by
    obtain ⟨ha1, ha2⟩ := List.pairwise_cons.1 ha
    obtain ⟨hb1, hb2⟩ := List.pairwise_cons.1 hb
    have hxy : x = y := by
      rcases List.mem_cons.1 ((h x).1 (List.mem_cons_self ..)) with e | e
      · exact e
      · rcases List.mem_cons.1 ((h y).2 (List.mem_cons_self ..)) with e2 | e2
        · exact e2.symm
        · have h1 := hb1 x e
          have h2 := ha1 y e2
          have := cmpW_neg x y
          omega
    subst hxy
    have nx : ∀ {l : List (List Int)}, (∀ z ∈ l, cmpW x z < 0) → x ∉ l := fun {l} hl hx => by
      have := hl x hx
      rw [cmpW_self] at this
      omega
    rw [strict_ext ha2 hb2 fun z => ⟨fun hz => ?_, fun hz => ?_⟩]
    · rcases List.mem_cons.1 ((h z).1 (List.mem_cons_of_mem _ hz)) with e | e
      · rw [e] at hz; exact (nx ha1 hz).elim
      · exact e
    · rcases List.mem_cons.1 ((h z).2 (List.mem_cons_of_mem _ hz)) with e | e
      · rw [e] at hz; exact (nx hb1 hz).elim
      · exact e
theorem putS_true (w : List Int) : ∀ l, putS w true l = l
  | [] => rfl
  | x :: l => by simp only [putS]; rw [if_neg (by simp), Bool.true_or, putS_true w l]
theorem putS_mem (w : List Int) : ∀ (l : List (List Int)) (z : List Int), z ∈ putS w false l ↔ z = w ∨ z ∈ l
  | [], z => by simp [putS]
  | x :: l, z => by
    simp only [putS]
    by_cases h : cmpW w x < 0
    · rw [if_pos ⟨h, trivial⟩, putS_true]; simp
    · rw [if_neg (by simp [h])]
      by_cases h0 : cmpW w x = 0
      · have e := (cmpW_zero w x).1 h0
        rw [show (false || cmpW w x == 0) = true by simp [h0], putS_true, e]; simp
      · rw [show (false || cmpW w x == 0) = false by simp [h0]]
        simp only [List.mem_cons, putS_mem w l z]
        constructor
        · rintro (h | h | h) <;> simp [h]
        · rintro (h | h | h) <;> simp [h]
theorem putS_strict (w : List Int) : ∀ {l : List (List Int)}, StrictW l → StrictW (putS w false l)
  | [], _ => by unfold StrictW; simp [putS]
  | x :: l, hl => by
    obtain ⟨h1, h2⟩ := List.pairwise_cons.1 hl
    simp only [putS]
    by_cases h : cmpW w x < 0
    · rw [if_pos ⟨h, trivial⟩, putS_true]
      refine List.pairwise_cons.2 ⟨fun z hz => ?_, hl⟩
      rcases List.mem_cons.1 hz with rfl | hz
      · exact h
      · exact cmpW_lt_trans h (h1 z hz)
    · rw [if_neg (by simp [h])]
      by_cases h0 : cmpW w x = 0
      · rw [show (false || cmpW w x == 0) = true by simp [h0], putS_true]; exact hl
      · rw [show (false || cmpW w x == 0) = false by simp [h0]]
        refine List.pairwise_cons.2 ⟨fun z hz => ?_, putS_strict w h2⟩
        rcases (putS_mem w l z).1 hz with rfl | hz
        · have := cmpW_neg z x; omega
        · exact h1 z hz
def srtL' (l0 L : List (List Int)) : List (List Int) := L.foldl (fun l w => putS w false l) l0
def srt (L : List (List Int)) : List (List Int) := srtL' [] L
theorem srt_snoc (L : List (List Int)) (w : List Int) : srt (L ++ [w]) = putS w false (srt L) := by simp [srt, srtL']
theorem srt_spec (L : List (List Int)) : StrictW (srt L) ∧ ∀ z, z ∈ srt L ↔ z ∈ L := by
  have key : ∀ (L l0 : List (List Int)), StrictW l0 → StrictW (srtL' l0 L) ∧ ∀ z, z ∈ srtL' l0 L ↔ z ∈ l0 ∨ z ∈ L := by
    intro L
    induction L with
    | nil => intro l0 h; exact ⟨h, fun z => by simp [srtL']⟩
    | cons w L ih =>
      intro l0 h
      obtain ⟨h1, h2⟩ := ih (putS w false l0) (putS_strict w h)
      refine ⟨h1, fun z => ?_⟩
      show z ∈ srtL' (putS w false l0) L ↔ _
      rw [h2 z, putS_mem]
      simp only [List.mem_cons]
      constructor
      · rintro ((h | h) | h) <;> simp [h]
      · rintro (h | h | h) <;> simp [h]
  obtain ⟨h1, h2⟩ := key L [] StrictW.nil
  exact ⟨h1, fun z => by rw [show srt L = srtL' [] L from rfl, h2 z]; simp⟩
theorem sorted_srt {L : List (List Int)} (hn : L.Nodup) {a : List (List Int)} (hp : a.Perm L) (hs : a.Pairwise fun p q => ¬ cmpW q p < 0) : a = srt L := by
  obtain ⟨h1, h2⟩ := srt_spec L
  refine strict_ext ?_ h1 fun z => (hp.mem_iff).trans (h2 z).symm
  have hna : a.Nodup := hp.nodup_iff.2 hn
  refine List.Pairwise.imp₂ ?_ hs hna
  intro p q h1 h2
  have h3 := cmpW_neg p q
  have h4 := cmpW_zero p q
  rcases Int.lt_trichotomy (cmpW p q) 0 with h | h | h
  · exact h
  · exact absurd (h4.1 h) h2
  · omega
theorem srt_id {L : List (List Int)} (h : StrictW L) : srt L = L := strict_ext (srt_spec L).1 h (srt_spec L).2
theorem srt_len (L : List (List Int)) : (srt L).length ≤ L.length := by
  have key : ∀ (L l0 : List (List Int)), (srtL' l0 L).length ≤ l0.length + L.length := by
    intro L
    induction L with
    | nil => intro l0; simp [srtL']
    | cons w L ih =>
      intro l0
      have := ih (putS w false l0)
      have h2 : ∀ (b : Bool) (l : List (List Int)), (putS w b l).length ≤ l.length + 1 := by
        intro b l
        induction l generalizing b with
        | nil => cases b <;> simp [putS]
        | cons x l ih =>
          simp only [putS]
          split
          · rw [putS_true]; simp
          · have := ih (b || cmpW w x == 0); simp; omega
      have := h2 false l0
      show (srtL' (putS w false l0) L).length ≤ _
      simp only [List.length_cons]
      omega
  have := key L []
  simpa [srt] using this
end Go.Proofs.YtojcdgdbffmlpaaGreat
namespace Go.Proofs.YtojcdgdbffmlpaaGreat
open Go Go.Aw Go.Cox Go.RowKit
theorem grow_zero (w : World) : Calls Tryz.prog 197 #[.slice none 0 0, .int .i64 0] w fun e w' => e = .returned (.slice none 0 0) ∧ w' = w := by
  go_enter Tryz.func197, Tryz.ntmps197
  go_wp2
  go_ret
  exact ⟨rfl, rfl⟩
set_option maxRecDepth 100000 in
theorem grow_some (n : Nat) (h0 : 0 < n) (hn : n ≤ 2097152) (w : World) : ∃ G i, n ≤ G ∧ G ≤ 9223372036854775807 ∧ Tryz.prog.info? 3 = some i ∧ i.size = 1 ∧ Calls Tryz.prog 197 #[.slice none 0 0, .int .i64 n] w fun e w' =>
    e = .returned (.slice (some ⟨w.heap.size, 0, none⟩) 0 G) ∧ w' = w.drew.alloc (.cells (Builtin.zeroCells (Value.int .i64 0).cells n ++ Builtin.zeroCells (Value.int .i64 0).cells (G - n)) 3) := by
  obtain ⟨i, hi, hz, hs, hb⟩ : ∃ i, Tryz.prog.info? 3 = some i ∧ i.zero = some (.int .i64 0) ∧ i.size = 1 ∧ i.bytes = 8 := ⟨_, rfl, rfl, rfl, rfl⟩
  refine ⟨grownCap w n 0 3, i, grownCap_ge w _ _ _, ?_, hi, hs, ?_⟩
  · have := grownCap_le_maxLen w n 0 3 (by unfold maxLen; omega)
    unfold maxLen at this
    omega
  have hG : n ≤ grownCap w n 0 3 := grownCap_ge w _ _ _
  have hG63 : grownCap w n 0 3 ≤ 9223372036854775807 := by
    have := grownCap_le_maxLen w n 0 3 (by unfold maxLen; omega)
    unfold maxLen at this
    omega
  have hrz : ∀ ty, (Builtin.append_ #[25, 3] ty #[.slice none 0 0, .int .i64 (n : Int)]).run Tryz.prog w =
      .ok (.slice (some ⟨w.heap.size, 0, none⟩) n (grownCap w n 0 3)) (w.drew.alloc (.cells (Builtin.zeroCells (Value.int .i64 0).cells n ++ Builtin.zeroCells (Value.int .i64 0).cells (grownCap w n 0 3 - n)) 3)) := fun ty =>
    Lib.run_append_nil_zeros w 25 3 ty 3 i (.int .i64 0) .i64 .i64 Tryz.underlying25 Tryz.underlying3 hi hz n h0 (by omega) (by omega) (by rw [hb]; omega)
  generalize grownCap w n 0 3 = G at hrz hG hG63 ⊢
  have h1 : ¬ ((n : Int) < 0) := by omega
  have h3 : wrap64 ((n : Int)) = (n : Int) := by unfold wrap64; omega
  have h4 : (n : Int) > 0 := by omega
  go_enter Tryz.func197, Tryz.ntmps197
  go_wp2_with (at_builtin; refine Lib.wpList_append_run _ rfl _ _ _ _ rfl _ _ rfl rfl _ _ (hrz _) ?_)
  all_goals (go_ret; exact ⟨rfl, rfl⟩)
end Go.Proofs.YtojcdgdbffmlpaaGreat
namespace Go.Proofs.YtojcdgdbffmlpaaGreat
open Go Go.Aw Go.Cox
theorem c_slices_Clone (w : List Int) (hl : w.length ≤ 1048576) : FunA B 121 [.sl false .int w] (fun rs o => ∃ nn, rs = [.own 0 0] ∧ o = [.arr .int w 0 nn]) := by
  refine FunA.walk B_ok (fn := Tryz.f121) (fun vs w => Tryz.call121 vs w) Tryz.func121 rfl (by rw [Tryz.ntmps121]; simp) (fun C hC hP hT hΓ hbt hfn hpin hfin => ?_); have hX := BX; rw [← hΓ, ← hbt.1, ← hbt.2] at hX; rw [Tryz.ntmps121]; simp only [AW7, simprocAttr, hX]
  refine Run.R ?_
  cases w with
  | nil =>
    refine Run.nilcase 0 rfl fun b => ?_
    refine Run.R ?_
    refine Run.nq ?_; refine Run.cW ?_ ?_
    · intro h
      refine Run.R ?_
      refine Run.nilown .int 2 rfl ?_
      refine Run.rW [2] (hfin _ _ rfl rfl ?_)
      exact ⟨false, rfl, rfl⟩
    · intro h
      refine Run.R ?_
      refine Run.le (Le.re (obs' := [.arr .int [] 0 true]) hpin [0] [(2, true, .own 0 0)] rfl (by simp [leOs, leO_arr, oAt]) (by refine ⟨⟨_, rfl, ?_⟩, trivial⟩; simp [leAV, oAt, genO])) ?_
      simp only [frV_cons, frV_nil]
      refine Run.rW [2] (hfin _ _ rfl rfl ?_)
      exact ⟨true, rfl, rfl⟩
  | cons x w =>
    refine Run.R ?_
    refine Run.nq ?_; refine Run.cW ?_ ?_
    · intro h
      simp at h
    · intro h
      refine Run.R ?_
      refine Run.le (Le.re (obs' := [.arr .int (x :: w) 0 true]) hpin [0] [(2, true, .own 0 0)] rfl (by simp [leOs, leO_arr, oAt]) (by refine ⟨⟨_, rfl, ?_⟩, trivial⟩; simp [leAV, oAt, genO])) ?_
      simp only [frV_cons, frV_nil]
      refine Run.rW [2] (hfin _ _ rfl rfl ?_)
      exact ⟨true, rfl, rfl⟩
end Go.Proofs.YtojcdgdbffmlpaaGreat
namespace Go.Proofs.YtojcdgdbffmlpaaGreat
open Go Go.Aw
def sumL : List (List Int) → Nat
  | [] => 0
  | r :: rs => r.length + sumL rs
theorem sumL_append : ∀ a b, sumL (a ++ b) = sumL a + sumL b
  | [], b => by simp [sumL]
  | r :: rs, b => by simp [sumL, sumL_append rs b]; omega
theorem sumL_take (rows : List (List Int)) (i : Nat) : sumL (rows.take i) ≤ sumL rows := by
  have := sumL_append (rows.take i) (rows.drop i)
  rw [List.take_append_drop] at this
  omega
theorem sumL_snoc (rows : List (List Int)) (i : Nat) (h : i < rows.length) : sumL (rows.take (i + 1)) = sumL (rows.take i) + (rows.getD i []).length := by
  rw [← take_snoc [] rows i h, sumL_append]
  simp [sumL]
end Go.Proofs.YtojcdgdbffmlpaaGreat
namespace Go.Proofs.YtojcdgdbffmlpaaGreat
open Go Go.Aw Go.Cox Go.RowKit
theorem c_slices_Grow (n : Nat) (hn : n ≤ 2097152) : FunA B 197 [.nils, .int .i64 n] (fun rs o => rs = [.own 0 0] ∧ o = [.arr .int [] 0 false]) := by
  refine ⟨fun vs w => Tryz.call197 vs w, fun w L vs hG hl ha => ?_⟩
  match vs, hl with
  | [u, v], _ =>
  have hu : u = .slice none 0 0 := ha 0 _ _ rfl rfl
  have hv : v = .int .i64 n := ha 1 _ _ rfl rfl
  subst hu hv
  have r0 := wrel_start B w L (fun _ => undef) hG
  have fin : ∀ (w' : World) (e : Ending) (x : Value), Ext (fun _ => False) w w' → e = .returned x → (∃ cs, w'.ownsRow 0 3 1 x 0 cs) → (∀ b, x.ownBlock = some b → w.heap.size ≤ b) →
      ∃ us : List Value, e = .returned (pack us) ∧ ∃ xs obs' ρ', (xs = [.own 0 0] ∧ obs' = [.arr .int [] 0 false]) ∧ us.length = xs.length ∧
      (∀ (i : Nat) (x : AV) (v : Value), xs[i]? = some x → us[i]? = some v → AVRel ((B.bareL w L).V w' obs' ρ') obs' ρ' x v) ∧ WRel (B.bareL w L) obs' w' ρ' ∧ xs.all freshAV = true ∧ obs'.all freshO = true := by
    intro w' e x hext he hown hb
    obtain ⟨cs, hown⟩ := hown
    have hcs : cs = [] := List.length_eq_zero_iff.1 (by simpa using hown.1)
    subst hcs
    have T := Turn.new (C := B.bareL w L) r0 hext (.arr .int [] 0 false) x ⟨[], hown, ⟨by simp, fun i hi => by simp at hi⟩, by simp, by simp⟩ (fun b hb' => hb b hb')
    refine ⟨[x], by rw [he]; rfl, [.own 0 0], [.arr .int [] 0 false], _, ⟨rfl, rfl⟩, rfl, fun i y u hy hu => ?_, (T.step r0).wr, rfl, rfl⟩
    match i, hy, hu with
    | 0, hy, hu =>
      simp at hy hu
      subst hy hu
      refine ⟨by simp, fun c hc => ?_⟩
      have : c = 0 := by simpa [genOf, O.gen] using hc.symm
      subst this
      exact ⟨Nat.le_refl _, fun _ => rfl⟩
  by_cases h0 : n = 0
  · subst h0
    refine (grow_zero w).mono fun e w' ⟨he, hw⟩ => ?_
    subst hw
    exact fin w' e _ (Ext.refl _ _) he ⟨[], World.ownsRow_nil _ _ _ _⟩ (fun b hb => by simp [Value.ownBlock] at hb)
  · obtain ⟨G, i, hG, hG63, hi, hs, hc⟩ := grow_some n (by omega) hn w
    refine hc.mono fun e w' ⟨he, hw⟩ => ?_
    subst hw
    refine fin _ e _ ((Ext.drew _ w).trans (Ext.alloc _ _ _)) he ⟨[], rfl, .inr ⟨w.heap.size, G, Builtin.zeroCells (Value.int .i64 0).cells n ++ Builtin.zeroCells (Value.int .i64 0).cells (G - n), rfl, Nat.zero_le _, ?_, Nat.zero_le _, by unfold maxLen; omega, ?_, by simp⟩⟩ (fun b hb => by simp [Value.ownBlock] at hb; omega)
    · show (w.heap.push _)[w.heap.size]? = _
      simp
    · simp [Builtin.zeroCells, Value.cells]
      omega
theorem flat_take (rows : List (List Int)) (i : Nat) (h : i < rows.length) : (rows.take i).flatten ++ rows.getD i [] = (rows.take (i + 1)).flatten := by
  rw [← take_snoc [] rows i h]; simp
theorem flat_len (rows : List (List Int)) : rows.flatten.length = sumL rows := by
  induction rows with
  | nil => rfl
  | cons r l ih => simp [sumL, ih]
theorem c_slices_Concat (rows : List (List Int)) (hl : sumL rows ≤ 2097152) (hr : rows.length ≤ 1048576) : FunA B 146 [.sl false (.row false) rows] (fun rs o => ∃ nn, rs = [.own 0 0] ∧ o = [.arr .int rows.flatten 0 nn]) := by
  refine FunA.walk B_ok (fn := Tryz.f146) (fun vs w => Tryz.call146 vs w) Tryz.func146 rfl (by rw [Tryz.ntmps146]; simp) (fun C hC hP hT hΓ hbt hfn hpin hfin => ?_); have hX := BX; rw [← hΓ, ← hbt.1, ← hbt.2] at hX; rw [Tryz.ntmps146]; simp only [AW7, simprocAttr, hX]
  refine Run.R ?_
  refine Run.R ?_
  refine Run.R ?_
  refine Run.loopI (X := Nat) (fun i => ⟨36, [(0, true, .v (.sl false (.row false) rows)), (2, true, .v .nils), (3, true, .v (.int .i64 (sumL (rows.take i)))), (9, true, .v (.sl false (.row false) rows)), (10, true, .v (.int .i64 rows.length)), (11, true, .v (.int .i64 i))], []⟩) (fun i => i ≤ rows.length) (fun i => rows.length - i) 0 (Nat.zero_le _) ?_ ?_
  · exact Le.sub (by rfl) (by simp only [AW7, simprocAttr, hX]; try simp [sumL])
  · rintro i hi ih
    have hsi := sumL_take rows i
    refine Run.R ?_
    refine Run.nq ?_; refine Run.cW ?_ ?_
    · intro hc
      have hc : i < rows.length := by simpa using hc
      have hsn := sumL_snoc rows i hc
      have hsi1 := sumL_take rows (i + 1)
      refine Run.R ?_
      refine Run.RW ?_
      refine Run.R ?_
      refine Run.nq ?_; refine Run.cW ?_ ?_
      · intro h2
        simp at h2
        omega
      · intro h2
        refine Run.RW ?_
        refine Run.le ?_ (ih (i + 1) hc (by omega))
        exact Le.sub (by rfl) (by simp only [AW7, simprocAttr, hX]; rw [hsn]; simp)
    · intro hc
      have hc : i = rows.length := by simp at hc; omega
      subst hc
      refine Run.exit rfl ?_; refine Run.nq ?_
      rw [List.take_length]
      refine Run.nq ?_; refine Run.regionW hC (fun K hK => ?_); refine wW ?_
      refine FunA.cW hP hT (c_slices_Grow (sumL rows) (by omega)) ?_
      rintro rs o ⟨rfl, rfl⟩
      refine wW ?_
      refine wE ?_; clear hK K
      refine Run.R ?_
      refine Run.loopI (X := Nat × Bool) (fun x => ⟨36, [(0, true, .v (.sl false (.row false) rows)), (2, true, .v .nils), (6, true, .v (.own 0 x.1)), (25, true, .v (.sl false (.row false) rows)), (26, true, .v (.int .i64 rows.length)), (27, true, .v (.int .i64 x.1))], [.arr .int (rows.take x.1).flatten x.1 x.2]⟩) (fun x => x.1 ≤ rows.length) (fun x => rows.length - x.1) (0, false) (Nat.zero_le _) ?_ ?_
      · exact Le.sub (by rfl) (by simp only [AW7, simprocAttr, hX]; try simp)
      rintro ⟨i, nn⟩ hi ih2
      simp only [] at hi ⊢
      have hsi := sumL_take rows i
      have hfl := flat_len (rows.take i)
      refine Run.R ?_
      refine Run.nq ?_; refine Run.cW ?_ ?_
      · intro hc
        have hc : i < rows.length := by simpa using hc
        have hsn := sumL_snoc rows i hc
        have hsi1 := sumL_take rows (i + 1)
        refine Run.R ?_
        refine Run.R ?_
        refine Run.RW ?_
        refine Run.le ?_ (ih2 (i + 1, nn || !(rows.getD i []).isEmpty) hc (by simp only []; omega))
        exact Le.sub (by simp only [flat_take rows i hc]) (by simp only [AW7, simprocAttr, hX]; try simp)
      · intro hc
        have hc : i = rows.length := by simp at hc; omega
        subst hc
        refine Run.exit rfl ?_; refine Run.nq ?_
        refine Run.R ?_
        refine Run.le (Le.re (obs' := [.arr .int rows.flatten 0 nn]) hpin [0] [(2, true, .own 0 0)] rfl (by rw [List.take_length]; simp [leOs, leO_arr, oAt]) (by refine ⟨⟨_, rfl, ?_⟩, trivial⟩; simp [leAV, oAt, genO])) ?_
        simp only [frV_cons, frV_nil]
        refine Run.rW [2] (hfin _ _ rfl rfl ?_)
        exact ⟨nn, rfl, rfl⟩
theorem c_impl_ConcatWords (a b : List Int) (ha : a.length ≤ 1048576) (hb : b.length ≤ 1048576) :
    FunA B 138 [.sl false .int a, .sl false .int b] (fun rs o => ∃ nn, rs = [.own 0 0] ∧ o = [.arr .int (a ++ b) 0 nn]) := by
  refine FunA.walk B_ok (fn := Tryz.f138) (fun vs w => Tryz.call138 vs w) Tryz.func138 rfl (by rw [Tryz.ntmps138]; simp) (fun C hC hP hT hΓ hbt hfn hpin hfin => ?_); have hX := BX; rw [← hΓ, ← hbt.1, ← hbt.2] at hX; rw [Tryz.ntmps138]; simp only [AW7, simprocAttr, hX]
  refine Run.R ?_
  refine Run.nq ?_; refine Run.regionW hC (fun K hK => ?_); refine wW ?_
  refine FunA.cW hP hT (c_slices_Concat [[], a, b] (by simp [sumL]; omega) (by simp)) ?_
  rintro rs o ⟨nn, rfl, rfl⟩
  refine wW ?_
  refine wE ?_; clear hK K
  refine Run.le (Le.re (obs' := [.arr .int (a ++ b) 0 nn]) hpin [2] [(4, true, .own 0 0)] rfl (by simp [leOs, leO_arr, oAt]) (by refine ⟨⟨_, rfl, ?_⟩, trivial⟩; simp [leAV, oAt, genO])) ?_
  simp only [frV_cons, frV_nil]
  refine Run.rW [4] (hfin _ _ rfl rfl ?_)
  exact ⟨nn, rfl, rfl⟩
end Go.Proofs.YtojcdgdbffmlpaaGreat
namespace Go.Proofs.YtojcdgdbffmlpaaGreat
open Go Go.Aw
def setP (n : Nat) (s : List Int) : Prop := ∀ i, i < s.length → 0 ≤ s.getD i 0 ∧ s.getD i 0 < n ∧ (0 < i → s.getD (i - 1) 0 < s.getD i 0)
open Classical in
noncomputable def setB (c : List (List Int)) (s : List Int) : Bool := decide (setP c.length s)
theorem setB_iff {c : List (List Int)} {s : List Int} : setB c s = true ↔ setP c.length s := by simp [setB]
noncomputable def isSetB (c : List (List Int)) (s : List Int) : Bool := isC c && setB c s
theorem c_spec_l3Set (c : List (List Int)) (s : List Int) (hc : c.length ≤ 1048576) : FunA B 247 [.sl false (.row false) c, .sl false .int s] (fun rs o => rs = [.bool (isSetB c s)] ∧ o = []) := by
  refine FunA.walk B_ok (fn := Tryz.f247) (fun vs w => Tryz.call247 vs w) Tryz.func247 rfl (by rw [Tryz.ntmps247]; simp) (fun C hC hP hT hΓ hbt hfn hpin hfin => ?_); have hX := BX; rw [← hΓ, ← hbt.1, ← hbt.2] at hX; rw [Tryz.ntmps247]; simp only [AW7, simprocAttr, hX]
  refine Run.len 1 rfl fun hlens => ?_
  refine Run.R ?_
  refine Run.R ?_
  refine Run.loopI (X := Nat) (fun i => ⟨39, [(0, true, .v (.sl false (.row false) c)), (1, true, .v (.sl false .int s)), (4, true, .v (.bool false)), (5, true, .v (.int .i64 i))], []⟩) (fun i => i ≤ s.length ∧ ∀ k, k < i → 0 ≤ s.getD k 0 ∧ s.getD k 0 < c.length ∧ (0 < k → s.getD (k - 1) 0 < s.getD k 0)) (fun i => s.length - i) 0 ⟨Nat.zero_le _, by omega⟩ ?_ ?_
  · exact Le.sub (by simp only [AW7, simprocAttr]) (by simp only [AW7, simprocAttr]; try simp)
  rintro i ⟨hi, hset⟩ ih
  refine Run.R ?_
  refine Run.nq ?_; refine Run.cW ?_ ?_
  · intro hc
    have hc : i < s.length := by simpa using hc
    refine Run.keep [0, 1, 4, 5] ?_; simp only [AK, Nat.reduceBEq]
    refine Run.nq ?_
    refine Run.regionD hC true [0,1,2,3,4,5,6,7,8,9,10,11,12,13,14,15,16,17,18,19,20,21,22,23,24] (by kernel_rfl) (fun K hK => ?_)
    simp (disch := omega) only [wrap_id, AW7, simprocAttr, hX]
    (repeat (with_reducible refine And.intro ?_ ?_); exact vc0)
    refine FunA.callD hP hT (c_spec_l1In (s.getD i 0) 0 ((c.length : Int) - 1)) (by simp only [AW7, simprocAttr]) ?_
    rintro rs o ⟨rfl, rfl⟩
    refine wWW ?_
    refine wE ?_; clear hK K
    refine Run.keep [0, 1, 4, 5, 36] ?_; simp only [AK, Nat.reduceBEq]
    have key : (bif !inB (s.getD i 0) 0 ((c.length : Int) - 1) then true else bif decide (0 < (i : Int)) then decide (s.getD i 0 ≤ s.getD ((i : Int) - 1).toNat 0) else false) = true ↔ ¬ (0 ≤ s.getD i 0 ∧ s.getD i 0 < c.length ∧ (0 < i → s.getD (i - 1) 0 < s.getD i 0)) := by
      have e : ((i : Int) - 1).toNat = i - 1 := by omega
      rw [e]
      cases hin : inB (s.getD i 0) 0 ((c.length : Int) - 1) with
      | false =>
        have : ¬ (0 ≤ s.getD i 0 ∧ s.getD i 0 ≤ (c.length : Int) - 1) := fun h => by rw [inB_iff.2 h] at hin; cases hin
        simp only [Bool.not_false, cond_true, true_iff]
        omega
      | true =>
        have := inB_iff.1 hin
        simp only [Bool.not_true, cond_false]
        by_cases h0 : 0 < i
        · have h0' : (0 : Int) < i := by omega
          simp only [h0', decide_true, cond_true, decide_eq_true_eq]
          omega
        · have h0' : ¬ (0 : Int) < i := by omega
          simp only [h0', decide_false, cond_false]
          simp only [Bool.false_eq_true, false_iff]
          omega
    refine Run.nq ?_; refine Run.cW ?_ ?_
    · intro hb
      refine Run.R ?_
      refine Run.rW [4] (hfin _ _ rfl rfl ?_)
      refine ⟨?_, rfl⟩
      have : setB c s = false := by
        cases h : setB c s with
        | false => rfl
        | true => exact absurd (setB_iff.1 h i hc) (key.1 hb)
      simp [isSetB, this]
    · intro hb
      have hb : 0 ≤ s.getD i 0 ∧ s.getD i 0 < c.length ∧ (0 < i → s.getD (i - 1) 0 < s.getD i 0) := by
        refine Classical.byContradiction fun h => ?_
        have := key.2 h
        rw [this] at hb
        cases hb
      refine Run.RW ?_
      refine Run.le ?_ (ih (i + 1) ⟨hc, fun k hk => ?_⟩ (by omega))
      · exact Le.sub (by simp only [AW7, simprocAttr]) (by simp only [AW7, simprocAttr, Option.some.injEq, Prod.mk.injEq, Sl.v.injEq, AV.int.injEq, AV.own.injEq, AV.bool.injEq]; try (repeat' apply And.intro); all_goals omega)
      · rcases Nat.lt_succ_iff_lt_or_eq.1 hk with h | rfl
        · exact hset k h
        · exact hb
  · intro hc
    have hc : i = s.length := by simp at hc; omega
    subst hc
    refine Run.exit rfl ?_; refine Run.nq ?_
    refine Run.nq ?_; refine Run.regionW hC (fun K hK => ?_); refine wW ?_
    refine FunA.cW hP hT (c_spec_IsCartan c) ?_
    rintro rs o ⟨rfl, rfl⟩
    refine wW ?_
    refine wE ?_; clear hK K
    refine Run.rW [4] (hfin _ _ rfl rfl ?_)
    refine ⟨?_, rfl⟩
    have : setB c s = true := setB_iff.2 hset
    simp [isSetB, this]
end Go.Proofs.YtojcdgdbffmlpaaGreat

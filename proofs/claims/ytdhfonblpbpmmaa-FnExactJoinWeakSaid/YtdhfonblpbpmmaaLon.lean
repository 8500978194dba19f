/- The longest element of a subgroup. -/
import Derived.Test.YtdhfonblpbpmmaaDet4
import Derived.Test.YtdhfonblpbpmmaaParts
set_option linter.unusedVariables false
set_option linter.unusedSimpArgs false
namespace Go.Proofs.Ytdhfonblpbpmmaa
open Go Go.Aw Go.Cox

def lonL (c : List (List Int)) : List Int := nfL c 31 (negs c.length)
theorem lon_far {c : List (List Int)} (hF : FinP c) : ∃ L, L ≤ 24 ∧ Far c L (negs c.length) := (fin_all hF).1
theorem lon_spec {c : List (List Int)} (hF : FinP c) : (lonL c).length ≤ 24 ∧ letters c.length (lonL c) := by
  obtain ⟨L, h1, h2⟩ := lon_far hF
  obtain ⟨a, b, _⟩ := nfL_far hF.1 31 L h2 (by omega)
  exact ⟨by unfold lonL; omega, b⟩
theorem negs_set (n m : Nat) (h : m < n) : (List.replicate m (-1 : Int) ++ List.replicate (n - m) 1).set m (-1) = List.replicate (m + 1) (-1) ++ List.replicate (n - (m + 1)) 1 := by
  rw [List.set_append, if_neg (by simp)]
  simp only [List.length_replicate, Nat.sub_self]
  rw [show n - m = (n - (m + 1)) + 1 by omega, List.replicate_succ, List.set_cons_zero, List.replicate_succ' (n := m)]
  simp

theorem c_impl_longestElement (c : List (List Int)) (hF : FinP c) : FunA B 44 [.sl false (.row false) c] (fun rs o => rs = [.own 0 0] ∧ o = [.arr .int (lonL c) 0 true]) := by
  obtain ⟨L, hL, hfar⟩ := lon_far hF
  have hc := hF.1
  have hn := hc.2.1
  refine FunA.walk B_ok (fn := Try.f44) (fun vs w => Try.call44 vs w) Try.func44 rfl (by rw [Try.ntmps44]; simp) (fun C hC hP hT hΓ hbt hfn hpin hfin => ?_); have hX := BX; rw [← hΓ, ← hbt.1, ← hbt.2] at hX; rw [Try.ntmps44]; simp only [AW6, simprocAttr, hX]
  refine Run.nq ?_; refine Run.regionW hC (fun K hK => ?_); simp only [AW6, simprocAttr, hX]; (repeat (with_reducible refine And.intro ?_ ?_); exact vc0); refine hK _ ?_; clear hK K; refine Run.nq ?_
  refine Run.nq ?_; refine Run.regionW hC (fun K hK => ?_); simp only [AW6, simprocAttr, hX]; (repeat (with_reducible refine And.intro ?_ ?_); exact vc0)
  refine FunA.callW hP hT (c_impl_ones c.length (by omega)) (by simp only [AW6, simprocAttr]) ?_
  rintro rs o ⟨rfl, rfl⟩
  (try simp only [AW6, simprocAttr, hX]); (repeat (with_reducible refine And.intro ?_ ?_); exact vc0)
  (repeat (with_reducible refine And.intro ?_ ?_); exact vc0); refine hK _ ?_; clear hK K; refine Run.nq ?_
  refine Run.nq ?_; refine Run.regionW hC (fun K hK => ?_); simp only [AW6, simprocAttr, hX]; (repeat (with_reducible refine And.intro ?_ ?_); exact vc0); refine hK _ ?_; clear hK K; refine Run.nq ?_
  rw [ones_length]
  refine Run.le (Le.sub (fr' := [(0, true, .v (.sl false (.row false) c)), (2, true, .v .nils), (3, true, .v (.own 0 0)), (8, true, .v (.own 0 0)), (9, true, .v (.int .i64 c.length)), (10, true, .v (.int .i64 (0 : Nat)))]) rfl (by simp only [AW6, simprocAttr]; try simp)) ?_
  refine Run.loopI (X := Nat) (fun m => ⟨20, [(0, true, .v (.sl false (.row false) (c))), (2, true, .v (.nils)), (3, true, .v (.own 0 0)), (9, true, .v (.int .i64 (c.length))), (10, true, .v (.int .i64 (m)))], [.arr .int ((List.replicate m (-1) ++ List.replicate (c.length - m) 1)) 0 true]⟩) (fun m => m ≤ c.length) (fun m => c.length - m) (0) (Nat.zero_le _) ?_ ?_
  · exact Le.sub (by first | rfl | simp) (by simp only [AW6, simprocAttr, hX]; try simp <;> try (first | rfl | exact ⟨rfl, rfl⟩ | exact ⟨rfl, rfl, rfl⟩))
  rintro m hm ih
  try simp only []
  refine Run.nq ?_; refine Run.regionW hC (fun K hK => ?_); simp only [AW6, simprocAttr, hX]; (repeat (with_reducible refine And.intro ?_ ?_); exact vc0); refine hK _ ?_; clear hK K; refine Run.nq ?_
  refine Run.nq ?_; refine Run.condW (by simp only [AW6, simprocAttr, hX]; rfl) (by simp only [AW6, simprocAttr, hX]) ?_ ?_
  · intro h
    have h : m < c.length := by simpa using h
    have hs := negs_set c.length m h
    refine Run.nq ?_; refine Run.regionW hC (fun K hK => ?_); simp only [AW6, simprocAttr, hX]; (repeat (with_reducible refine And.intro ?_ ?_); exact vc0); refine hK _ ?_; clear hK K; refine Run.nq ?_
    refine Run.nq ?_; refine Run.regionW hC (fun K hK => ?_); simp only [AW6, simprocAttr, hX]; (repeat (with_reducible refine And.intro ?_ ?_); exact vc0); refine hK _ ?_; clear hK K; refine Run.nq ?_
    rw [hs]
    refine Run.nq ?_; refine Run.regionW hC (fun K hK => ?_); simp (disch := omega) only [wrap_id, AW6, simprocAttr, hX]; (repeat (with_reducible refine And.intro ?_ ?_); exact vc0); refine hK _ ?_; clear hK K; refine Run.nq ?_
    refine Run.le ?_ (ih (m + 1) (by omega) (by omega))
    exact Le.sub (by rfl) (by simp only [AW6, simprocAttr]; try simp)
  · intro h
    have h : m = c.length := by simp at h; omega
    subst h
    rw [show List.replicate c.length (-1 : Int) ++ List.replicate (c.length - c.length) 1 = negs c.length by simp [negs]]
    refine Run.exit rfl ?_; refine Run.nq ?_
    refine Run.nq ?_; refine Run.regionW hC (fun K hK => ?_); simp only [AW6, simprocAttr, hX]; (repeat (with_reducible refine And.intro ?_ ?_); exact vc0)
    refine FunA.callW hP hT (c_impl_normal c (negs c.length) L hc hfar (by omega)) (by simp only [AW6, simprocAttr]) ?_
    rintro rs o ⟨rfl, rfl⟩
    (try simp only [AW6, simprocAttr, hX]); (repeat (with_reducible refine And.intro ?_ ?_); exact vc0)
    (repeat (with_reducible refine And.intro ?_ ?_); exact vc0); refine hK _ ?_; clear hK K; refine Run.nq ?_
    refine Run.reK hpin [2] [1] (by decide) (by simp) ?_; simp only [AR, AW6, simprocAttr]
    refine Run.retW [2] (by decide) (by rw [hfn]; rfl) (by simp only [AW6, simprocAttr, hX]; rfl) (by simp only [AW6, simprocAttr, hX]) (hfin _ _ rfl rfl ?_)
    exact ⟨rfl, rfl⟩

noncomputable def lonE (c : List (List Int)) : List Int := if isF c then lonL c else []
theorem lonE_le (c : List (List Int)) : (lonE c).length ≤ 24 := by
  unfold lonE; split
  · rename_i h; exact (lon_spec (isF_iff.1 h)).1
  · simp
theorem c_spec_LongestElement (c : List (List Int)) : FunA B 40 [.sl false (.row false) c] (fun rs o => rs = [.own 0 0, .bool (isF c)] ∧ o = [.arr .int (lonE c) 0 true]) := by
  refine FunA.walk B_ok (fn := Try.f40) (fun vs w => Try.call40 vs w) Try.func40 rfl (by rw [Try.ntmps40]; simp) (fun C hC hP hT hΓ hbt hfn hpin hfin => ?_); have hX := BX; rw [← hΓ, ← hbt.1, ← hbt.2] at hX; rw [Try.ntmps40]; simp only [AW6, simprocAttr, hX]
  refine Run.nq ?_; refine Run.regionW hC (fun K hK => ?_); simp only [AW6, simprocAttr, hX]; (repeat (with_reducible refine And.intro ?_ ?_); exact vc0); refine hK _ ?_; clear hK K; refine Run.nq ?_
  refine Run.nq ?_; refine Run.regionW hC (fun K hK => ?_); simp only [AW6, simprocAttr, hX]; (repeat (with_reducible refine And.intro ?_ ?_); exact vc0)
  refine FunA.callW hP hT (c_spec_IsFinite c) (by simp only [AW6, simprocAttr]) ?_
  rintro rs o ⟨rfl, rfl⟩
  (try simp only [AW6, simprocAttr, hX]); (repeat (with_reducible refine And.intro ?_ ?_); exact vc0)
  (repeat (with_reducible refine And.intro ?_ ?_); exact vc0); refine hK _ ?_; clear hK K; refine Run.nq ?_
  refine Run.nq ?_; refine Run.condW (by simp only [AW6, simprocAttr, hX]; rfl) (by simp only [AW6, simprocAttr, hX]) ?_ ?_
  · intro h
    have h : isF c = false := by simpa using h
    refine Run.nq ?_; refine Run.regionW hC (fun K hK => ?_); simp only [AW6, simprocAttr, hX]; (repeat (with_reducible refine And.intro ?_ ?_); exact vc0); refine hK _ ?_; clear hK K; refine Run.nq ?_
    refine Run.retW [2, 3] (by decide) (by rw [hfn]; rfl) (by simp only [AW6, simprocAttr, hX]; rfl) (by simp only [AW6, simprocAttr, hX]) (hfin _ _ rfl rfl ?_)
    simp [lonE, h]
  · intro h
    have h : isF c = true := by simpa using h
    have hF := isF_iff.1 h
    obtain ⟨L, hL, hfar⟩ := lon_far hF
    have hc := hF.1
    have hn := hc.2.1
    refine Run.nq ?_; refine Run.regionW hC (fun K hK => ?_); simp only [AW6, simprocAttr, hX]; (repeat (with_reducible refine And.intro ?_ ?_); exact vc0); refine hK _ ?_; clear hK K; refine Run.nq ?_
    refine Run.nq ?_; refine Run.regionW hC (fun K hK => ?_); simp only [AW6, simprocAttr, hX]; (repeat (with_reducible refine And.intro ?_ ?_); exact vc0); refine hK _ ?_; clear hK K; refine Run.nq ?_
    refine Run.loopI (X := Nat) (fun m => ⟨23, [(0, true, .v (.sl false (.row false) (c))), (2, true, .v (.nils)), (3, true, .v (.bool (false))), (4, true, .v (.own 0 0)), (5, true, .v (.int .i64 (m)))], [.arr .int ((List.replicate m (-1))) 0 true]⟩) (fun m => m ≤ c.length) (fun m => c.length - m) (0) (Nat.zero_le _) ?_ ?_
    · exact Le.sub (by first | rfl | simp) (by simp only [AW6, simprocAttr, hX]; try simp <;> try (first | rfl | exact ⟨rfl, rfl⟩ | exact ⟨rfl, rfl, rfl⟩))
    rintro m hm ih
    try simp only []
    refine Run.nq ?_; refine Run.regionW hC (fun K hK => ?_); simp only [AW6, simprocAttr, hX]; (repeat (with_reducible refine And.intro ?_ ?_); exact vc0); refine hK _ ?_; clear hK K; refine Run.nq ?_
    refine Run.nq ?_; refine Run.condW (by simp only [AW6, simprocAttr, hX]; rfl) (by simp only [AW6, simprocAttr, hX]) ?_ ?_
    · intro h
      have h : m < c.length := by simpa using h
      have hs : List.replicate m (-1 : Int) ++ [-1] = List.replicate (m + 1) (-1) := by rw [List.replicate_succ']
      have hrl : (List.replicate m (-1 : Int)).length = m := by simp
      refine Run.nq ?_; refine Run.regionW hC (fun K hK => ?_); simp only [AW6, simprocAttr, hX]; (repeat (with_reducible refine And.intro ?_ ?_); exact vc0); refine hK _ ?_; clear hK K; refine Run.nq ?_
      rw [hs]
      refine Run.nq ?_; refine Run.regionW hC (fun K hK => ?_); simp (disch := omega) only [wrap_id, AW6, simprocAttr, hX]; (repeat (with_reducible refine And.intro ?_ ?_); exact vc0); refine hK _ ?_; clear hK K; refine Run.nq ?_
      refine Run.reK hpin [0, 2, 3, 4, 5] [0] (by decide) (by simp) ?_; simp only [AR, AW6, simprocAttr]
      refine Run.le ?_ (ih (m + 1) (by omega) (by omega))
      exact Le.sub (by rfl) (by simp only [AW6, simprocAttr]; try simp)
    · intro h2
      have h2 : m = c.length := by simp at h2; omega
      subst h2
      refine Run.exit rfl ?_; refine Run.nq ?_
      refine Run.nq ?_; refine Run.regionW hC (fun K hK => ?_); simp only [AW6, simprocAttr, hX]; (repeat (with_reducible refine And.intro ?_ ?_); exact vc0)
      refine FunA.callW hP hT (c_spec_l8Form c (negs c.length) L hc hfar (by omega)) (by simp only [AW6, simprocAttr]; simp [negs]) ?_
      rintro rs o ⟨rfl, rfl⟩
      (try simp only [AW6, simprocAttr, hX]); (repeat (with_reducible refine And.intro ?_ ?_); exact vc0)
      (repeat (with_reducible refine And.intro ?_ ?_); exact vc0); refine hK _ ?_; clear hK K; refine Run.nq ?_
      refine Run.reK hpin [2, 3] [1] (by decide) (by simp) ?_; simp only [AR, AW6, simprocAttr]
      refine Run.retW [2, 3] (by decide) (by rw [hfn]; rfl) (by simp only [AW6, simprocAttr, hX]; rfl) (by simp only [AW6, simprocAttr, hX]) (hfin _ _ rfl rfl ?_)
      simp [lonE, h, lonL]

/-! ### Subgroups -/
theorem pick_ent {c : List (List Int)} {s : List Int} {i j : Nat} (hi : i < s.length) (hj : j < s.length) : ent (pick c s) i j = ent c (s.getD i 0).toNat (s.getD j 0).toNat := by
  simp [ent, pick, List.getD_eq_getElem?_getD, hi, hj]
theorem pick_cartan {c : List (List Int)} (hc : CartanP c) {s : List Int} (hs : setP c.length s) (hne : s ≠ []) : CartanP (pick c s) := by
  have hl := set_len hs
  have hn := hc.2.1
  have hp : 0 < s.length := List.length_pos_iff.2 hne
  have e : (pick c s).length = s.length := by simp [pick]
  refine ⟨by omega, by omega, fun i hi => ?_, fun i j hi hj hb => ?_⟩
  · rw [e] at hi ⊢
    simp [pick, List.getD_eq_getElem?_getD, hi]
  · rw [e] at hi hj
    obtain ⟨a1, a2, _⟩ := hs i hi
    obtain ⟨b1, b2, _⟩ := hs j hj
    refine hc.2.2.2 (s.getD i 0).toNat (s.getD j 0).toNat (by omega) (by omega) ?_
    rcases hb with ⟨h1, h2⟩ | ⟨h1, h2⟩
    · refine .inl ⟨by rw [h1], ?_⟩
      rwa [pick_ent hi hj] at h2
    · refine .inr ⟨fun h => ?_, ?_⟩
      · rcases Nat.lt_or_ge i j with q | q
        · have := setP_mono hs i j q hj; omega
        · have := setP_mono hs j i (by omega) hi; omega
      · rwa [pick_ent hi hj, pick_ent hj hi] at h2

noncomputable def lonOB (c : List (List Int)) (s : List Int) : Bool := isSetB c s && (decide (s = []) || isF (pick c s))
noncomputable def lonO (c : List (List Int)) (s : List Int) : List Int := if lonOB c s then (if s = [] then [] else (lonL (pick c s)).map fun i => s.getD i.toNat 0) else []
theorem lonO_le (c : List (List Int)) (s : List Int) : (lonO c s).length ≤ 24 := by
  unfold lonO
  split
  · rename_i h
    split
    · simp
    · rename_i h2
      unfold lonOB at h
      simp [h2] at h
      simpa using (lon_spec (isF_iff.1 h.2)).1
  · simp
theorem map_set {f : Int → Int} (l : List Int) (m : Nat) (h : m < l.length) : ((l.take m).map f ++ l.drop m).set m (f (l.getD m 0)) = (l.take (m + 1)).map f ++ l.drop (m + 1) := by
  rw [← take_snoc 0 l m h, List.set_append, if_neg (by simp; omega)]
  have : l.drop m = l.getD m 0 :: l.drop (m + 1) := by
    rw [List.drop_eq_getElem_cons h]; simp [List.getD_eq_getElem?_getD, h]
  rw [this]
  simp [Nat.min_eq_left (Nat.le_of_lt h)]
theorem map_get {f : Int → Int} (l : List Int) (m : Nat) (h : m < l.length) : ((l.take m).map f ++ l.drop m).getD m 0 = l.getD m 0 := by
  simp [List.getD_eq_getElem?_getD, List.getElem?_append_right, Nat.min_eq_left (Nat.le_of_lt h), List.getElem?_drop]

end Go.Proofs.Ytdhfonblpbpmmaa

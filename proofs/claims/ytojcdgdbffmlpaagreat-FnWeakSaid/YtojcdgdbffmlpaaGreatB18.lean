/- The longest element of a subgroup. -/
import Derived.Test.YtojcdgdbffmlpaaGreatB17
import Derived.Test.YtojcdgdbffmlpaaGreatB12
import Derived.Test.YtojcdgdbffmlpaaGreatB16
import Derived.Test.YtojcdgdbffmlpaaGreatB7
import Derived.Test.YtojcdgdbffmlpaaGreatB13
set_option linter.unusedVariables false
set_option linter.unusedSimpArgs false
namespace Go.Proofs.YtojcdgdbffmlpaaGreat
open Go Go.Aw Go.Cox
def lonL (c : List (List Int)) : List Int := nfL c 31 (negs c.length)
theorem lon_far {c : List (List Int)} (hF : FinP c) : ∃ L, L ≤ 24 ∧ Far c L (negs c.length) := (fin_all hF).1
theorem lon_spec {c : List (List Int)} (hF : FinP c) : (lonL c).length ≤ 24 ∧ letters c.length (lonL c) := by
  obtain ⟨L, h1, h2⟩ := lon_far hF
  obtain ⟨a, b, _⟩ := nfL_far hF.1 31 L h2 (by omega)
  exact ⟨by unfold lonL; omega, b⟩
theorem negs_set (n m : Nat) (h : m < n) : (List.replicate m (-1 : Int) ++ List.replicate (n - m) 1).set m (-1) = List.replicate (m + 1) (-1) ++ List.replicate (n - (m + 1)) 1 := by
  rw [List.set_append, if_neg (by simp)]
  simp only [List.length_replicate, Nat.sub_self]
  rw [show n - m = (n - (m + 1)) + 1 by omega, List.replicate_succ, List.set_cons_zero, List.replicate_succ' (n := m)]
  simp
theorem c_impl_longestElement (c : List (List Int)) (hF : FinP c) : FunA B 137 [.sl false (.row false) c] (fun rs o => rs = [.own 0 0] ∧ o = [.arr .int (lonL c) 0 true]) := by
  obtain ⟨L, hL, hfar⟩ := lon_far hF
  have hc := hF.1
  have hn := hc.2.1
  refine FunA.walk B_ok (fn := Tryz.f137) (fun vs w => Tryz.call137 vs w) Tryz.func137 rfl (by rw [Tryz.ntmps137]; simp) (fun C hC hP hT hΓ hbt hfn hpin hfin => ?_); have hX := BX; rw [← hΓ, ← hbt.1, ← hbt.2] at hX; rw [Tryz.ntmps137]; simp only [AW7, simprocAttr, hX]
  refine Run.R ?_
  refine Run.nq ?_; refine Run.regionW hC (fun K hK => ?_); refine wW ?_
  refine FunA.cW hP hT (c_impl_ones c.length (by omega)) ?_
  rintro rs o ⟨rfl, rfl⟩
  refine wW ?_
  refine wE ?_; clear hK K
  refine Run.R ?_
  rw [ones_length]
  refine Run.le (Le.sub (fr' := [(0, true, .v (.sl false (.row false) c)), (2, true, .v .nils), (3, true, .v (.own 0 0)), (8, true, .v (.own 0 0)), (9, true, .v (.int .i64 c.length)), (10, true, .v (.int .i64 (0 : Nat)))]) rfl (by simp only [AW7, simprocAttr]; try simp)) ?_
  refine Run.loopI (X := Nat) (fun m => ⟨20, [(0, true, .v (.sl false (.row false) (c))), (2, true, .v (.nils)), (3, true, .v (.own 0 0)), (9, true, .v (.int .i64 (c.length))), (10, true, .v (.int .i64 (m)))], [.arr .int ((List.replicate m (-1) ++ List.replicate (c.length - m) 1)) 0 true]⟩) (fun m => m ≤ c.length) (fun m => c.length - m) (0) (Nat.zero_le _) ?_ ?_
  · exact Le.sub (by first | rfl | simp) (by simp only [AW7, simprocAttr, hX]; try simp <;> try (first | rfl | exact ⟨rfl, rfl⟩ | exact ⟨rfl, rfl, rfl⟩))
  rintro m hm ih
  try simp only []
  refine Run.R ?_
  refine Run.nq ?_; refine Run.cW ?_ ?_
  · intro h
    have h : m < c.length := by simpa using h
    have hs := negs_set c.length m h
    refine Run.R ?_
    refine Run.R ?_
    rw [hs]
    refine Run.RW ?_
    refine Run.le ?_ (ih (m + 1) (by omega) (by omega))
    exact Le.sub (by rfl) (by simp only [AW7, simprocAttr]; try simp)
  · intro h
    have h : m = c.length := by simp at h; omega
    subst h
    rw [show List.replicate c.length (-1 : Int) ++ List.replicate (c.length - c.length) 1 = negs c.length by simp [negs]]
    refine Run.exit rfl ?_; refine Run.nq ?_
    refine Run.nq ?_; refine Run.regionW hC (fun K hK => ?_); refine wW ?_
    refine FunA.cW hP hT (c_impl_normal c (negs c.length) L hc hfar (by omega)) ?_
    rintro rs o ⟨rfl, rfl⟩
    refine wW ?_
    refine wE ?_; clear hK K
    refine Run.reK hpin [2] [1] (by decide) (by simp) ?_; simp only [AR, AW7, simprocAttr]
    refine Run.rW [2] (hfin _ _ rfl rfl ?_)
    exact ⟨rfl, rfl⟩
noncomputable def lonE (c : List (List Int)) : List Int := if isF c then lonL c else []
theorem c_spec_LongestElement (c : List (List Int)) : FunA B 84 [.sl false (.row false) c] (fun rs o => rs = [.own 0 0, .bool (isF c)] ∧ o = [.arr .int (lonE c) 0 true]) := by
  refine FunA.walk B_ok (fn := Tryz.f84) (fun vs w => Tryz.call84 vs w) Tryz.func84 rfl (by rw [Tryz.ntmps84]; simp) (fun C hC hP hT hΓ hbt hfn hpin hfin => ?_); have hX := BX; rw [← hΓ, ← hbt.1, ← hbt.2] at hX; rw [Tryz.ntmps84]; simp only [AW7, simprocAttr, hX]
  refine Run.R ?_
  refine Run.nq ?_; refine Run.regionW hC (fun K hK => ?_); refine wW ?_
  refine FunA.cW hP hT (c_spec_IsFinite c) ?_
  rintro rs o ⟨rfl, rfl⟩
  refine wW ?_
  refine wE ?_; clear hK K
  refine Run.nq ?_; refine Run.cW ?_ ?_
  · intro h
    have h : isF c = false := by simpa using h
    refine Run.R ?_
    refine Run.rW [2, 3] (hfin _ _ rfl rfl ?_)
    simp [lonE, h]
  · intro h
    have h : isF c = true := by simpa using h
    have hF := isF_iff.1 h
    obtain ⟨L, hL, hfar⟩ := lon_far hF
    have hc := hF.1
    have hn := hc.2.1
    refine Run.R ?_
    refine Run.R ?_
    refine Run.loopI (X := Nat) (fun m => ⟨23, [(0, true, .v (.sl false (.row false) (c))), (2, true, .v (.nils)), (3, true, .v (.bool (false))), (4, true, .v (.own 0 0)), (5, true, .v (.int .i64 (m)))], [.arr .int ((List.replicate m (-1))) 0 true]⟩) (fun m => m ≤ c.length) (fun m => c.length - m) (0) (Nat.zero_le _) ?_ ?_
    · exact Le.sub (by first | rfl | simp) (by simp only [AW7, simprocAttr, hX]; try simp <;> try (first | rfl | exact ⟨rfl, rfl⟩ | exact ⟨rfl, rfl, rfl⟩))
    rintro m hm ih
    try simp only []
    refine Run.R ?_
    refine Run.nq ?_; refine Run.cW ?_ ?_
    · intro h
      have h : m < c.length := by simpa using h
      have hs : List.replicate m (-1 : Int) ++ [-1] = List.replicate (m + 1) (-1) := by rw [List.replicate_succ']
      have hrl : (List.replicate m (-1 : Int)).length = m := by simp
      refine Run.R ?_
      rw [hs]
      refine Run.RW ?_
      refine Run.reK hpin [0, 2, 3, 4, 5] [0] (by decide) (by simp) ?_; simp only [AR, AW7, simprocAttr]
      refine Run.le ?_ (ih (m + 1) (by omega) (by omega))
      exact Le.sub (by rfl) (by simp only [AW7, simprocAttr]; try simp)
    · intro h2
      have h2 : m = c.length := by simp at h2; omega
      subst h2
      refine Run.exit rfl ?_; refine Run.nq ?_
      refine Run.nq ?_; refine Run.regionW hC (fun K hK => ?_); refine wW ?_
      refine FunA.callW hP hT (c_spec_l8Form c (negs c.length) L hc hfar (by omega)) (by simp only [AW7, simprocAttr]; simp [negs]) ?_
      rintro rs o ⟨rfl, rfl⟩
      refine wW ?_
      refine wE ?_; clear hK K
      refine Run.reK hpin [2, 3] [1] (by decide) (by simp) ?_; simp only [AR, AW7, simprocAttr]
      refine Run.rW [2, 3] (hfin _ _ rfl rfl ?_)
      simp [lonE, h, lonL]
theorem map_set {f : Int → Int} (l : List Int) (m : Nat) (h : m < l.length) : ((l.take m).map f ++ l.drop m).set m (f (l.getD m 0)) = (l.take (m + 1)).map f ++ l.drop (m + 1) := by
  rw [← take_snoc 0 l m h, List.set_append, if_neg (by simp; omega)]
  have : l.drop m = l.getD m 0 :: l.drop (m + 1) := by
    rw [List.drop_eq_getElem_cons h]; simp [List.getD_eq_getElem?_getD, h]
  rw [this]
  simp [Nat.min_eq_left (Nat.le_of_lt h)]
end Go.Proofs.YtojcdgdbffmlpaaGreat
namespace Go.Proofs.YtojcdgdbffmlpaaGreat
open Go Go.Aw Go.Cox
noncomputable def jnP (c : List (List Int)) (u v : List Int) : Bool := isF c && decide ((lonL c).length ≤ 15) && wordB c u && wordB c v
noncomputable def jnU (c : List (List Int)) (u : List Int) : List Int := redL c (u ++ lonL c)
noncomputable def jnB (c : List (List Int)) (u v : List Int) : Bool := jnP c u v && mtB c (jnU c u) (jnU c v)
noncomputable def jnX (c : List (List Int)) (u v : List Int) : List Int := if jnB c u v then redL c (mtX c (jnU c u) (jnU c v) ++ lonL c) else []
theorem jnB_off {c : List (List Int)} {u v : List Int} (h : jnP c u v = false) : jnB c u v = false ∧ jnX c u v = [] := by
  have e : jnB c u v = false := by simp [jnB, h]
  exact ⟨e, by simp [jnX, e]⟩
theorem jnB_on {c : List (List Int)} {u v : List Int} (h : jnP c u v = true) : jnB c u v = mtB c (jnU c u) (jnU c v) := by simp [jnB, h]
theorem jnX_len (c : List (List Int)) (u v : List Int) : (jnX c u v).length ≤ 31 := by
  unfold jnX
  split
  · rename_i h
    have hp : jnP c u v = true := by revert h; unfold jnB; cases jnP c u v <;> simp
    simp only [jnP, Bool.and_eq_true, decide_eq_true_eq] at hp
    have hF := isF_iff.1 hp.1.1.1
    have hm : mtB c (jnU c u) (jnU c v) = true := by rw [← h]; simp [jnB, jnP, hp]
    have h1 := mtX_word (c := c) (u := jnU c u) (v := jnU c v)
    have := (red_spec hF.1 (letters_append.2 ⟨h1.2 hm, (lon_spec hF).2⟩) (by simp; omega)).2.1
    simp at this
    omega
  · simp
theorem c_impl_JoinWeak (c : List (List Int)) (u v : List Int) (hcl : c.length ≤ 1048576) :
    FunA B 40 [.sl false (.row false) c, .sl false .int u, .sl false .int v] (fun rs o => rs = [.own 0 0, .bool (jnB c u v)] ∧ o = [.arr .int (jnX c u v) 0 true]) := by
  refine FunA.walk B_ok (fn := Tryz.f40) (fun vs w => Tryz.call40 vs w) Tryz.func40 rfl (by rw [Tryz.ntmps40]; simp) (fun C hC hP hT hΓ hbt hfn hpin hfin => ?_); have hX := BX; rw [← hΓ, ← hbt.1, ← hbt.2] at hX; rw [Tryz.ntmps40]; simp only [AW7, simprocAttr, hX]
  refine Run.R ?_
  refine Run.nq ?_; refine Run.regionW hC (fun K hK => ?_); refine wW ?_
  refine FunA.cW hP hT (c_impl_IsFinite c) ?_
  rintro rs o ⟨rfl, rfl⟩
  refine wW ?_
  refine .inl (FunA.callG hP hT (c_impl_IsWord c u) (fun _ => rfl) (fun _ => by simp only [AW7, simprocAttr]) ?_)
  refine wW ?_
  refine .inl (FunA.callG hP hT (c_impl_IsWord c v) (fun _ => rfl) (fun _ => by simp only [AW7, simprocAttr]) ?_)
  refine wW ?_
  refine wE ?_; clear hK K
  refine Run.nq ?_; refine Run.cW ?_ ?_
  · intro h
    have hp : jnP c u v = false := by
      revert h
      cases h1 : isF c <;> cases h2 : wordB c u <;> cases h3 : wordB c v <;> simp [jnP, h1, h2, h3]
    obtain ⟨e1, e2⟩ := jnB_off hp
    refine Run.R ?_
    refine Run.reK hpin [6, 7] [0] (by decide) (by simp) ?_; simp only [AR, AW7, simprocAttr]
    refine Run.rW [6, 7] (hfin _ _ rfl rfl ?_)
    rw [e1, e2]
    exact ⟨rfl, rfl⟩
  intro h
  have hf : isF c = true := by revert h; cases h1 : isF c <;> simp
  have hu : wordB c u = true := by revert h; cases h1 : wordB c u <;> simp [hf]
  have hv : wordB c v = true := by revert h; cases h1 : wordB c v <;> simp [hf, hu]
  have hF := isF_iff.1 hf
  obtain ⟨hc, u2, u3⟩ := wordB_iff.1 hu
  obtain ⟨_, v2, v3⟩ := wordB_iff.1 hv
  obtain ⟨l1, l2⟩ := lon_spec hF
  refine Run.nq ?_; refine Run.regionW hC (fun K hK => ?_); refine wW ?_
  refine FunA.cW hP hT (c_impl_longestElement c hF) ?_
  rintro rs o ⟨rfl, rfl⟩
  refine wW ?_
  refine wE ?_; clear hK K
  refine Run.R ?_
  refine Run.nq ?_; refine Run.cW ?_ ?_
  · intro h4
    have h4 : ¬ (lonL c).length ≤ 15 := by rw [decide_eq_true_eq] at h4; omega
    obtain ⟨e1, e2⟩ := jnB_off (u := u) (v := v) (c := c) (by simp [jnP, h4])
    refine Run.R ?_
    refine Run.reK hpin [6, 7] [1] (by decide) (by simp) ?_; simp only [AR, AW7, simprocAttr]
    refine Run.rW [6, 7] (hfin _ _ rfl rfl ?_)
    rw [e1, e2]
    exact ⟨rfl, rfl⟩
  intro h4
  have h4 : (lonL c).length ≤ 15 := by rw [decide_eq_false_iff_not] at h4; omega
  have hp : jnP c u v = true := by simp [jnP, hf, hu, hv, h4]
  have eB := jnB_on hp
  have ul := letters_append.2 ⟨u3, l2⟩
  have vl := letters_append.2 ⟨v3, l2⟩
  have ur := (red_spec hc ul (by simp; omega)).2.1
  have vr := (red_spec hc vl (by simp; omega)).2.1
  simp at ur vr
  refine Run.nq ?_; refine Run.regionW hC (fun K hK => ?_); refine wW ?_
  refine FunA.cW hP hT (c_impl_ConcatWords u (lonL c) (by omega) (by omega)) ?_
  rintro rs o ⟨nn1, rfl, rfl⟩
  refine wW ?_
  refine FunA.cW hP hT (c_impl_reduced c (u ++ lonL c) hc ul (by simp; omega)) ?_
  rintro rs o ⟨rfl, rfl⟩
  refine wW ?_
  refine FunA.cW hP hT (c_impl_ConcatWords v (lonL c) (by omega) (by omega)) ?_
  rintro rs o ⟨nn2, rfl, rfl⟩
  refine wW ?_
  refine FunA.cW hP hT (c_impl_reduced c (v ++ lonL c) hc vl (by simp; omega)) ?_
  rintro rs o ⟨rfl, rfl⟩
  refine wW ?_
  refine FunA.callW hP hT (c_impl_MeetWeak c (jnU c u) (jnU c v) hcl) (by simp only [AW7, simprocAttr]; exact ⟨rfl, rfl⟩) ?_
  rintro rs o ⟨rfl, rfl⟩
  refine wW ?_
  refine wE ?_; clear hK K
  obtain ⟨m1, m2⟩ := mtX_word (c := c) (u := jnU c u) (v := jnU c v)
  generalize hgm : mtX c (jnU c u) (jnU c v) = m at *
  refine Run.R ?_
  refine Run.nq ?_; refine Run.cW ?_ ?_
  · intro h5
    have h5 : mtB c (jnU c u) (jnU c v) = false := by simpa using h5
    have e2 : jnX c u v = [] := by simp [jnX, eB, h5]
    refine Run.R ?_
    refine Run.reK hpin [6, 7] [6] (by decide) (by simp) ?_; simp only [AR, AW7, simprocAttr]
    refine Run.rW [6, 7] (hfin _ _ rfl rfl ?_)
    rw [eB, e2, h5]
    exact ⟨rfl, rfl⟩
  intro h5
  have h5 : mtB c (jnU c u) (jnU c v) = true := by simpa using h5
  have e2 : jnX c u v = redL c (m ++ lonL c) := by simp [jnX, eB, h5, hgm]
  have ml := letters_append.2 ⟨m2 h5, l2⟩
  refine Run.nq ?_; refine Run.regionW hC (fun K hK => ?_); refine wW ?_
  refine FunA.cW hP hT (c_impl_ConcatWords m (lonL c) (by omega) (by omega)) ?_
  rintro rs o ⟨nn3, rfl, rfl⟩
  refine wW ?_
  refine FunA.cW hP hT (c_impl_reduced c (m ++ lonL c) hc ml (by simp; omega)) ?_
  rintro rs o ⟨rfl, rfl⟩
  refine wW ?_
  refine wE ?_; clear hK K
  refine Run.reK hpin [6, 7] [7] (by decide) (by simp) ?_; simp only [AR, AW7, simprocAttr]
  refine Run.rW [6, 7] (hfin _ _ rfl rfl ?_)
  rw [eB, e2, h5]
  exact ⟨rfl, rfl⟩
theorem lonE_on {c : List (List Int)} (h : isF c = true) : lonE c = lonL c := by simp [lonE, h]
theorem c_spec_JoinWeak (c : List (List Int)) (u v : List Int) (hcl : c.length ≤ 1048576) :
    FunA B 41 [.sl false (.row false) c, .sl false .int u, .sl false .int v] (fun rs o => rs = [.own 0 0, .bool (jnB c u v)] ∧ o = [.arr .int (jnX c u v) 0 true]) := by
  refine FunA.walk B_ok (fn := Tryz.f41) (fun vs w => Tryz.call41 vs w) Tryz.func41 rfl (by rw [Tryz.ntmps41]; simp) (fun C hC hP hT hΓ hbt hfn hpin hfin => ?_); have hX := BX; rw [← hΓ, ← hbt.1, ← hbt.2] at hX; rw [Tryz.ntmps41]; simp only [AW7, simprocAttr, hX]
  refine Run.R ?_
  refine Run.nq ?_; refine Run.regionW hC (fun K hK => ?_); refine wW ?_
  refine FunA.cW hP hT (c_spec_LongestElement c) ?_
  rintro rs o ⟨rfl, rfl⟩
  refine wW ?_
  refine wE ?_; clear hK K
  refine Run.nq ?_; refine Run.regionW hC (fun K hK => ?_); refine wW ?_
  refine .inl (FunA.callG hP hT (c_spec_IsWord c u hcl) (fun _ => rfl) (fun _ => by simp only [AW7, simprocAttr]) ?_)
  refine wW ?_
  refine .inl (FunA.callG hP hT (c_spec_IsWord c v hcl) (fun _ => rfl) (fun _ => by simp only [AW7, simprocAttr]) ?_)
  refine wW ?_
  refine wE ?_; clear hK K
  refine Run.nq ?_; refine Run.cW ?_ ?_
  · intro h
    have hp : jnP c u v = false := by
      revert h
      cases h1 : isF c with
      | false => intro _; simp [jnP, h1]
      | true =>
        rw [lonE_on h1]
        by_cases h4 : (lonL c).length ≤ 15
        · rw [decide_eq_false (by omega : ¬ ((lonL c).length : Int) > 15)]
          cases h2 : wordB c u <;> cases h3 : wordB c v <;> simp [jnP, h1, h2, h3]
        · intro _; simp [jnP, h4]
    obtain ⟨e1, e2⟩ := jnB_off hp
    refine Run.R ?_
    refine Run.reK hpin [6, 7] [1] (by decide) (by simp) ?_; simp only [AR, AW7, simprocAttr]
    refine Run.rW [6, 7] (hfin _ _ rfl rfl ?_)
    rw [e1, e2]
    exact ⟨rfl, rfl⟩
  intro h
  have hf : isF c = true := by revert h; cases h1 : isF c <;> simp
  have hlE := lonE_on hf
  rw [hf] at h
  rw [hlE]
  rw [hlE] at h
  have h4 : (lonL c).length ≤ 15 := by
    by_cases h4 : (lonL c).length ≤ 15
    · exact h4
    · rw [decide_eq_true (by omega : ((lonL c).length : Int) > 15)] at h; simp at h
  rw [decide_eq_false (by omega : ¬ ((lonL c).length : Int) > 15)] at h
  have hu : wordB c u = true := by revert h; cases h1 : wordB c u <;> simp
  have hv : wordB c v = true := by revert h; cases h1 : wordB c v <;> simp [hu]
  have hF := isF_iff.1 hf
  obtain ⟨hc, u2, u3⟩ := wordB_iff.1 hu
  obtain ⟨_, v2, v3⟩ := wordB_iff.1 hv
  obtain ⟨l1, l2⟩ := lon_spec hF
  have hp : jnP c u v = true := by simp [jnP, hf, hu, hv, h4]
  have eB := jnB_on hp
  have ul := letters_append.2 ⟨u3, l2⟩
  have vl := letters_append.2 ⟨v3, l2⟩
  have ur := (red_spec hc ul (by simp; omega)).2.1
  have vr := (red_spec hc vl (by simp; omega)).2.1
  simp at ur vr
  refine Run.nq ?_; refine Run.regionW hC (fun K hK => ?_); refine wW ?_
  refine FunA.cW hP hT (c_spec_ConcatWords u (lonL c) (by omega) (by omega)) ?_
  rintro rs o ⟨rfl, rfl⟩
  refine wW ?_
  refine FunA.cW hP hT (c_spec_l8Normal c (u ++ lonL c) hc ul (by simp; omega)) ?_
  rintro rs o ⟨rfl, rfl⟩
  refine wW ?_
  refine FunA.cW hP hT (c_spec_ConcatWords v (lonL c) (by omega) (by omega)) ?_
  rintro rs o ⟨rfl, rfl⟩
  refine wW ?_
  refine FunA.cW hP hT (c_spec_l8Normal c (v ++ lonL c) hc vl (by simp; omega)) ?_
  rintro rs o ⟨rfl, rfl⟩
  refine wW ?_
  refine FunA.callW hP hT (c_spec_MeetWeak c (jnU c u) (jnU c v) hcl) (by simp only [AW7, simprocAttr]; exact ⟨rfl, rfl⟩) ?_
  rintro rs o ⟨rfl, rfl⟩
  refine wW ?_
  refine wE ?_; clear hK K
  obtain ⟨m1, m2⟩ := mtX_word (c := c) (u := jnU c u) (v := jnU c v)
  generalize hgm : mtX c (jnU c u) (jnU c v) = m at *
  refine Run.R ?_
  refine Run.nq ?_; refine Run.cW ?_ ?_
  · intro h5
    have h5 : mtB c (jnU c u) (jnU c v) = false := by simpa using h5
    have e2 : jnX c u v = [] := by simp [jnX, eB, h5]
    refine Run.R ?_
    refine Run.reK hpin [6, 7] [6] (by decide) (by simp) ?_; simp only [AR, AW7, simprocAttr]
    refine Run.rW [6, 7] (hfin _ _ rfl rfl ?_)
    rw [eB, e2, h5]
    exact ⟨rfl, rfl⟩
  intro h5
  have h5 : mtB c (jnU c u) (jnU c v) = true := by simpa using h5
  have e2 : jnX c u v = redL c (m ++ lonL c) := by simp [jnX, eB, h5, hgm]
  have ml := letters_append.2 ⟨m2 h5, l2⟩
  refine Run.nq ?_; refine Run.regionW hC (fun K hK => ?_); refine wW ?_
  refine FunA.cW hP hT (c_spec_ConcatWords m (lonL c) (by omega) (by omega)) ?_
  rintro rs o ⟨rfl, rfl⟩
  refine wW ?_
  refine FunA.cW hP hT (c_spec_l8Normal c (m ++ lonL c) hc ml (by simp; omega)) ?_
  rintro rs o ⟨rfl, rfl⟩
  refine wW ?_
  refine wE ?_; clear hK K
  refine Run.reK hpin [6, 7] [7] (by decide) (by simp) ?_; simp only [AR, AW7, simprocAttr]
  refine Run.rW [6, 7] (hfin _ _ rfl rfl ?_)
  rw [eB, e2, h5]
  exact ⟨rfl, rfl⟩
end Go.Proofs.YtojcdgdbffmlpaaGreat
namespace Go.Proofs.YtojcdgdbffmlpaaGreat
open Go Go.Aw Go.Cox
theorem meet_ex {c : List (List Int)} {u v : List Int} (hv : wordB c v = true) (hu : preB c u = true) : ∃ b, MeetP c u v b := by
  refine Classical.byContradiction fun hn => ?_
  have key : ∀ k : Nat, ∃ b, b ∈ preX c u ∧ wkB c b v = true ∧ k ≤ b.length := by
    intro k
    induction k with
    | zero => exact ⟨[], (meet_nil hv hu).1, (meet_nil hv hu).2, Nat.zero_le _⟩
    | succ k ih =>
      obtain ⟨b, b1, b2, b3⟩ := ih
      refine Classical.byContradiction fun hm => hn ⟨b, b1, b2, fun z z1 z2 => ?_⟩
      refine Classical.byContradiction fun hz => hm ⟨z, z1, z2, by omega⟩
  obtain ⟨b, b1, _, b3⟩ := key 16
  have := (preX_word b1).1.2.1
  omega
theorem mt_spec {c : List (List Int)} {u v : List Int} (h : mtB c u v = true) : MeetP c u v (mtX c u v) := by
  obtain ⟨hv, hu⟩ := mtB_iff.1 h
  obtain ⟨b, hb⟩ := meet_ex hv hu
  rw [mtX_on hv hu hb]
  exact hb
theorem wk_redl {c : List (List Int)} {x v : List Int} (hx : wordB c x = true) (hv : wordB c v = true) : wkB c (redL c x) v = true ↔ wkB c x v = true := by
  obtain ⟨hn, h15⟩ := word_nf hx
  obtain ⟨hc, x1, x2⟩ := wordB_iff.1 hx
  obtain ⟨a1, a2, a3, a4, a5⟩ := red_spec hc x2 (by omega)
  rw [wk_inv (wordB_iff.2 ⟨hc, h15, hn.1⟩) hv, wk_inv hx hv]
  exact ⟨fun H r hr => H r (inv_same hc x2 a1 a4.symm hr), fun H r hr => H r (inv_same hc a1 x2 a4 hr)⟩
theorem wk_words {c : List (List Int)} {u v : List Int} (h : wkB c u v = true) : wordB c u = true ∧ wordB c v = true := by
  unfold wkB at h
  simp only [Bool.and_eq_true] at h
  exact h.1
theorem meet_law {c : List (List Int)} {u v : List Int} (h : mtB c u v = true) : wordB c (mtX c u v) = true ∧ wkB c (mtX c u v) u = true ∧ wkB c (mtX c u v) v = true ∧ ∀ x, wkB c x u = true → wkB c x v = true → wkB c x (mtX c u v) = true := by
  obtain ⟨hv, hu⟩ := mtB_iff.1 h
  obtain ⟨m1, m2, m3⟩ := mt_spec h
  obtain ⟨wm, nm⟩ := preX_word m1
  have hwu := (preX_pre m1).1
  have hm : wordB c (mtX c u v) = true := wordB_iff.2 wm
  have hp := (preX_iff hu _).1 m1
  have hq := (wk_pre hv wm nm).1 m2
  refine ⟨hm, (wk_pre hwu wm nm).2 hp, m2, fun x h1 h2 => ?_⟩
  have hx := (wk_words h1).1
  obtain ⟨nx, x15⟩ := word_nf hx
  have wx : WordP c (redL c x) := ⟨wm.1, x15, nx.1⟩
  have p1 := (wk_pre hwu wx nx).1 ((wk_redl hx hwu).2 h1)
  have p2 := (wk_pre hv wx nx).1 ((wk_redl hx hv).2 h2)
  have p3 := meet_top wm.1 (word_nf hwu).1 (word_nf hv).1 hp hq p1 p2 (fun z h3 h4 => by
    have h5 := (preX_iff hu z).2 h3
    obtain ⟨wz, nz⟩ := preX_word h5
    exact m3 z h5 ((wk_pre hv wz nz).2 h4))
  refine (wk_redl hx hm).1 ((wk_pre hm wx nx).2 ?_)
  rw [nm.2.1]
  exact p3
theorem refl_negs (c : List (List Int)) (i : Int) (v : List Int) : reflL c i (negL v) = negL (reflL c i v) := by
  apply vec_inj (by simp [reflL_length, negL])
  funext k
  show (reflL c i (negL v)).getD k 0 = (negL (reflL c i v)).getD k 0
  rw [negL_get]
  by_cases hk : k < v.length
  · rw [reflL_get _ _ _ _ (by simpa [negL] using hk), reflL_get _ _ _ _ hk, negL_get, negL_get]
    grind
  · rw [List.getD_eq_getElem?_getD, List.getElem?_eq_none (by rw [reflL_length]; simp [negL]; omega), List.getD_eq_getElem?_getD, List.getElem?_eq_none (by rw [reflL_length]; omega)]
    rfl
theorem actL_negs (c : List (List Int)) (v : List Int) : ∀ w, actL c w (negL v) = negL (actL c w v)
  | [] => rfl
  | i :: w => by show reflL c i (actL c w _) = negL (reflL c i (actL c w v)); rw [actL_negs c v w, refl_negs]
theorem negs_eq (n : Nat) : negs n = negL (ones n) := by simp [negs, negL, ones]
theorem flip_root {c : List (List Int)} (hc : CartanP c) {z : List Int} (hz : letters c.length z) (hI : imageL c z = negs c.length) {r : List Int} (hr : Rt c r) : sgnR (actR c z.reverse r) = - sgnR r := by
  obtain ⟨w, i, hw, hi, rfl⟩ := hr
  rw [← actR_append]
  have h1 : imageL c (z.reverse ++ w).reverse = negL (imageL c w.reverse) := by
    rw [List.reverse_append, List.reverse_reverse, image_append, hI, negs_eq, actL_negs]; rfl
  have hl := letters_append.2 ⟨letters_reverse hz, hw⟩
  have hnz := img_nz hc (letters_reverse hw) hi
  have e : (imageL c (z.reverse ++ w).reverse).getD i 0 = - (imageL c w.reverse).getD i 0 := by rw [h1, negL_get]
  rcases Int.lt_or_gt_of_ne hnz with h | h
  · rw [root_pos hc hl hi (by omega), root_neg hc hw hi h]; rfl
  · rw [root_neg hc hl hi (by omega), root_pos hc hw hi h]
theorem lon_img {c : List (List Int)} (hF : FinP c) : Nf c (lonL c) ∧ imageL c (lonL c) = negs c.length := by
  obtain ⟨L, h1, h2⟩ := lon_far hF
  obtain ⟨a, b, d⟩ := nfL_far hF.1 31 L h2 (by omega)
  have e : imageL c (lonL c) = negs c.length := d
  refine ⟨⟨b, ?_, by have := (lon_spec hF).1; omega⟩, e⟩
  show nfL c 31 (imageL c (lonL c)) = lonL c
  rw [e]; rfl
theorem compl_inv {c : List (List Int)} (hF : FinP c) {w r : List Int} (hr : Rt c r) (hw : letters c.length w) : InvP c (w ++ lonL c) r ↔ sgnR r = 1 ∧ ¬ InvP c w r := by
  have hc := hF.1
  have hl := lon_spec hF
  have hA := hr.act (letters_reverse hw)
  have e : sgnR (actR c (w ++ lonL c).reverse r) = - sgnR (actR c w.reverse r) := by
    rw [List.reverse_append, actR_append, flip_root hc hl.2 (lon_img hF).2 hA]
  have hs := hA.sign hc
  unfold InvP
  rw [e]
  constructor
  · rintro ⟨_, h1, h2⟩
    exact ⟨h1, fun ⟨_, _, h3⟩ => by omega⟩
  · rintro ⟨h1, h2⟩
    refine ⟨hr, h1, ?_⟩
    rcases hs with h | h
    · omega
    · exact absurd ⟨hr, h1, h⟩ h2
theorem low_of_fin {c : List (List Int)} (hF : FinP c) (hl : (lonL c).length ≤ 15) {w : List Int} (hw : letters c.length w) (h31 : w.length ≤ 31) (h30 : (redL c w).length ≤ 30) : wordB c (redL c w) = true := by
  have hc := hF.1
  obtain ⟨a1, a2, a3, a4, a5⟩ := red_spec hc hw h31
  have hn := nf_red hc hw h31 h30
  obtain ⟨nl, il⟩ := lon_img hF
  obtain ⟨t, _, _, h3⟩ := weak_of_inv hc (redL c w) (hn.red hc) nl h30 (fun r hr => by
    refine ⟨hr.1, hr.2.1, ?_⟩
    rw [flip_root hc nl.1 il hr.1, hr.2.1])
  exact wordB_iff.2 ⟨hc, by omega, a1⟩
theorem jn_inv {c : List (List Int)} (hF : FinP c) (hl : (lonL c).length ≤ 15) {w : List Int} (hw : wordB c w = true) : wordB c (jnU c w) = true ∧ ∀ r, Rt c r → (InvP c (jnU c w) r ↔ sgnR r = 1 ∧ ¬ InvP c w r) := by
  obtain ⟨hc, w1, w2⟩ := wordB_iff.1 hw
  have hL := lon_spec hF
  have hlet := letters_append.2 ⟨w2, hL.2⟩
  have h30 : (w ++ lonL c).length ≤ 30 := by simp; omega
  obtain ⟨a1, a2, a3, a4, a5⟩ := red_spec hc hlet (by omega)
  refine ⟨low_of_fin hF hl hlet (by omega) (by omega), fun r hr => ?_⟩
  rw [← compl_inv hF hr w2]
  exact ⟨inv_same hc a1 hlet a4, inv_same hc hlet a1 a4.symm⟩
theorem jn_anti {c : List (List Int)} (hF : FinP c) (hl : (lonL c).length ≤ 15) {a b : List Int} (ha : wordB c a = true) (hb : wordB c b = true) : wkB c (jnU c b) (jnU c a) = true ↔ wkB c a b = true := by
  obtain ⟨wa, ia⟩ := jn_inv hF hl ha
  obtain ⟨wb, ib⟩ := jn_inv hF hl hb
  rw [wk_inv wb wa, wk_inv ha hb]
  constructor
  · intro H r hr
    refine Classical.byContradiction fun hn => ?_
    exact ((ia r hr.1).1 (H r ((ib r hr.1).2 ⟨hr.2.1, hn⟩))).2 hr
  · intro H r hr
    obtain ⟨h1, h2⟩ := (ib r hr.1).1 hr
    exact (ia r hr.1).2 ⟨h1, fun h => h2 (H r h)⟩
theorem jn_twice {c : List (List Int)} (hF : FinP c) (hl : (lonL c).length ≤ 15) {a : List Int} (ha : wordB c a = true) : ∀ r, InvP c (jnU c (jnU c a)) r ↔ InvP c a r := by
  obtain ⟨wa, ia⟩ := jn_inv hF hl ha
  obtain ⟨wb, ib⟩ := jn_inv hF hl wa
  intro r
  constructor
  · intro h
    obtain ⟨h1, h2⟩ := (ib r h.1).1 h
    refine Classical.byContradiction fun hn => h2 ((ia r h.1).2 ⟨h1, hn⟩)
  · intro h
    exact (ib r h.1).2 ⟨h.2.1, fun h2 => ((ia r h.1).1 h2).2 h⟩
theorem join_law {c : List (List Int)} {u v : List Int} (h : jnB c u v = true) : wordB c (jnX c u v) = true ∧ wkB c u (jnX c u v) = true ∧ wkB c v (jnX c u v) = true ∧ ∀ x, wkB c u x = true → wkB c v x = true → wkB c (jnX c u v) x = true := by
  have hp : jnP c u v = true := by revert h; unfold jnB; cases jnP c u v <;> simp
  have hm : mtB c (jnU c u) (jnU c v) = true := by rw [← jnB_on hp]; exact h
  simp only [jnP, Bool.and_eq_true, decide_eq_true_eq] at hp
  obtain ⟨⟨⟨hF, hl⟩, hu⟩, hv⟩ := hp
  have hF := isF_iff.1 hF
  obtain ⟨m1, m2, m3, m4⟩ := meet_law hm
  have e : jnX c u v = jnU c (mtX c (jnU c u) (jnU c v)) := by unfold jnX; rw [if_pos h]; rfl
  rw [e]
  generalize mtX c (jnU c u) (jnU c v) = m at *
  obtain ⟨wu, _⟩ := jn_inv hF hl hu
  obtain ⟨wv, _⟩ := jn_inv hF hl hv
  obtain ⟨wm, _⟩ := jn_inv hF hl m1
  have below : ∀ {a : List Int}, wordB c a = true → wkB c m (jnU c a) = true → wkB c a (jnU c m) = true := fun {a} ha hk => by
    obtain ⟨wa, _⟩ := jn_inv hF hl ha
    have h1 := (jn_anti hF hl m1 wa).2 hk
    obtain ⟨w2, _⟩ := jn_inv hF hl wa
    refine (wk_inv ha wm).2 fun r hr => (wk_inv w2 wm).1 h1 r ((jn_twice hF hl ha r).2 hr)
  refine ⟨wm, below hu m2, below hv m3, fun x h1 h2 => ?_⟩
  have hx := (wk_words h1).2
  obtain ⟨wx, _⟩ := jn_inv hF hl hx
  have h3 := m4 (jnU c x) ((jn_anti hF hl hu hx).2 h1) ((jn_anti hF hl hv hx).2 h2)
  have h4 := (jn_anti hF hl wx m1).2 h3
  obtain ⟨w2, _⟩ := jn_inv hF hl wx
  exact (wk_inv wm hx).2 fun r hr => (jn_twice hF hl hx r).1 ((wk_inv wm w2).1 h4 r hr)
end Go.Proofs.YtojcdgdbffmlpaaGreat
namespace Go.Proofs.YtojcdgdbffmlpaaGreat
open Go Go.Aw Go.Cox
theorem c_spec_RootSequence (c : List (List Int)) (w : List Int) (hW : WordP c w) :
    FunA B 160 [.sl false (.row false) c, .sl false .int w] (fun rs o => rs = [.own 0 0] ∧ ∃ ys, ys.map (·.2) = seqL c w ∧ o = [.arr .lrow ys 0 true]) := by
  have hc := hW.1
  have hn := hc.2.1
  have hwl := hW.2.1
  have hwb : wordB c w = true := wordB_iff.2 hW
  refine FunA.walk B_ok (fn := Tryz.f160) (fun vs w => Tryz.call160 vs w) Tryz.func160 rfl (by rw [Tryz.ntmps160]; simp) (fun C hC hP hT hΓ hbt hfn hpin hfin => ?_); have hX := BX; rw [← hΓ, ← hbt.1, ← hbt.2] at hX; rw [Tryz.ntmps160]; simp only [AW7, simprocAttr, hX]
  refine Run.R ?_
  refine Run.R ?_
  refine Run.R ?_
  refine Run.loopI (X := Nat × List (Nat × List Int)) (fun m => ⟨36, [(0, true, .v (.sl false (.row false) (c))), (1, true, .v (.sl false .int (w))), (4, true, .v (.nils)), (5, true, .v (.own 0 0)), (6, true, .v (.int .i64 (m.1)))], [.arr .lrow (m.2) 0 true]⟩) (fun m => m.1 ≤ w.length ∧ m.2.map (·.2) = (List.range m.1).map (sq c w)) (fun m => w.length - m.1) ((0, [])) (⟨Nat.zero_le _, rfl⟩) ?_ ?_
  · exact Le.sub (by first | rfl | simp) (by simp only [AW7, simprocAttr, hX]; try simp <;> try (first | rfl | exact ⟨rfl, rfl⟩ | exact ⟨rfl, rfl, rfl⟩))
  rintro ⟨m, ys⟩ ⟨hm, hy⟩ ih
  try simp only []
  simp only [] at hm hy
  have hyl : ys.length = m := by have := congrArg List.length hy; simpa using this
  by_cases h : m < w.length
  · have e1 : decide ((m : Int) < w.length) = true := by rw [decide_eq_true_eq]; omega
    have hlet := letters_getD.1 hW.2.2 m h
    have hsl := simL_len c.length (w.getD m 0).toNat
    refine Run.nq ?_; refine Run.regionW hC (fun K hK => ?_); refine wW ?_
    simp only [e1]
    refine .inr ⟨rfl, ?_⟩
    refine FunA.cW hP hT (c_spec_IsWord c w (by omega)) ?_
    rintro rs o ⟨rfl, rfl⟩
    simp only [hwb]
    refine wW ?_
    refine wE ?_; clear hK K
    refine Run.nq ?_; refine Run.cW ?_ ?_
    rotate_left
    · intro h; cases h
    intro _
    refine Run.nq ?_; refine Run.regionD hC true [0,1,2,3,4,5,6,7,8,9,10,11] (by kernel_rfl) (fun K hK => ?_); simp only [AW7, simprocAttr, hX]; (repeat (with_reducible refine And.intro ?_ ?_); exact vc0)
    refine FunA.callD hP hT (c_spec_SimpleRoot c (w.getD m 0) hc hlet) (by simp only [AW7, simprocAttr]) ?_
    rintro rs o ⟨rfl, rfl⟩
    refine wW ?_
    rw [show List.take (m - 0) (List.drop 0 w) = w.take m by simp]
    refine FunA.callD hP hT (c_spec_ActOnRoot c (w.take m) (simL c.length (w.getD m 0).toNat) (word_take hW m) hsl (seq_small hW m _)) (by simp only [AW7, simprocAttr]) ?_
    rintro rs o ⟨rfl, rfl⟩
    refine wW ?_
    refine wE ?_; clear hK K
    refine Run.nq ?_; refine Run.regionW hC (fun K hK => ?_); refine wW ?_
    intro l hl
    refine wW ?_
    refine wE ?_; clear hK K
    refine Run.RW ?_
    refine Run.reK hpin [0, 1, 4, 5, 6] [0] (by decide) (by simp) ?_; simp only [AR, AW7, simprocAttr]
    refine Run.le ?_ (ih ((m + 1, ys ++ [(l, sq c w m)])) (⟨h, by rw [List.map_append, hy]; exact range_snoc (sq c w) m⟩) (by (try simp only [List.length_append, List.length_cons, List.length_nil]); omega))
    exact Le.sub (by rfl) (by simp only [AW7, simprocAttr]; try simp)
  · have h : m = w.length := by omega
    subst h
    have e1 : decide ((w.length : Int) < w.length) = false := by rw [decide_eq_false_iff_not]; omega
    refine Run.nq ?_; refine Run.regionW hC (fun K hK => ?_); refine wW ?_
    simp only [e1]
    refine .inl (CallG.off (.bool false) ?_)
    refine wW ?_
    refine wE ?_; clear hK K
    refine Run.nq ?_; refine Run.cW ?_ ?_
    · intro h; cases h
    intro _
    refine Run.exit rfl ?_; refine Run.nq ?_
    refine Run.R ?_
    refine Run.reK hpin [4] [0] (by decide) (by simp) ?_; simp only [AR, AW7, simprocAttr]
    refine Run.rW [4] (hfin _ _ rfl rfl ?_)
    exact ⟨rfl, ys, hy, rfl⟩
theorem ys_get {ys : List (Nat × List Int)} {n : Nat} {f : Nat → List Int} (h : ys.map (·.2) = (List.range n).map f) {k : Nat} (hk : k < n) : (ys.getD k (0, [])).2 = f k := by
  have h1 : (ys.map (·.2)).getD k [] = f k := by rw [h]; simp [hk]
  rw [← h1]
  have : ys.length = n := by have := congrArg List.length h; simpa using this
  simp [List.getD_eq_getElem?_getD, this, hk]
end Go.Proofs.YtojcdgdbffmlpaaGreat
namespace Go.Proofs.YtojcdgdbffmlpaaGreat
open Go Go.Aw Go.Cox
def gtL : List Int → List Int → Bool
  | x :: a, y :: b => if x = y then gtL a b else decide (y < x)
  | _, _ => false
def befR (a b : List Int) : Bool := if hgt a = hgt b then gtL a b else decide (hgt a < hgt b)
theorem gtL_at : ∀ (a b : List Int) (i : Nat), i < a.length → i < b.length → a.take i = b.take i → a.getD i 0 ≠ b.getD i 0 → gtL a b = decide (b.getD i 0 < a.getD i 0)
  | [], _, i, h, _, _, _ => by simp at h
  | _ :: _, [], i, _, h, _, _ => by simp at h
  | x :: a, y :: b, 0, _, _, _, h => by
    simp at h
    simp [gtL, h]
  | x :: a, y :: b, i + 1, h1, h2, h3, h4 => by
    simp only [List.take_succ_cons, List.cons.injEq] at h3
    obtain ⟨rfl, h3⟩ := h3
    have ih := gtL_at a b i (by simpa using h1) (by simpa using h2) h3 (by simpa using h4)
    simp only [gtL, if_pos, List.getD_cons_succ]
    exact ih
theorem gtL_no : ∀ (a b : List Int) (i : Nat), i ≤ a.length → i ≤ b.length → a.take i = b.take i → (i = a.length ∨ i = b.length) → gtL a b = false
  | [], _, i, _, _, _, _ => by simp [gtL]
  | _ :: _, [], i, _, _, _, _ => by simp [gtL]
  | x :: a, y :: b, 0, _, _, _, h => by simp at h
  | x :: a, y :: b, i + 1, h1, h2, h3, h4 => by
    simp only [List.take_succ_cons, List.cons.injEq] at h3
    obtain ⟨rfl, h3⟩ := h3
    have ih := gtL_no a b i (by simpa using h1) (by simpa using h2) h3 (by simpa using h4)
    simp only [gtL, if_pos]
    exact ih
theorem c_spec_l7Before (a b : List Int) (ha : Bnd 1000000000000000000 a) (hb : Bnd 1000000000000000000 b) (hal : a.length ≤ 4) (hbl : b.length ≤ 4) : FunA B 207 [.sl false .int a, .sl false .int b] (fun rs o => rs = [.bool (befR a b)] ∧ o = []) := by
  refine FunA.walk B_ok (fn := Tryz.f207) (fun vs w => Tryz.call207 vs w) Tryz.func207 rfl (by rw [Tryz.ntmps207]; simp) (fun C hC hP hT hΓ hbt hfn hpin hfin => ?_); have hX := BX; rw [← hΓ, ← hbt.1, ← hbt.2] at hX; rw [Tryz.ntmps207]; simp only [AW7, simprocAttr, hX]
  refine Run.R ?_
  refine Run.nq ?_; refine Run.regionW hC (fun K hK => ?_); refine wW ?_
  refine FunA.cW hP hT (c_spec_HeightOf a ha hal) ?_
  rintro rs o ⟨rfl, rfl⟩
  refine wW ?_
  refine wE ?_; clear hK K
  refine Run.nq ?_; refine Run.regionW hC (fun K hK => ?_); refine wW ?_
  refine FunA.cW hP hT (c_spec_HeightOf b hb hbl) ?_
  rintro rs o ⟨rfl, rfl⟩
  refine wW ?_
  refine wE ?_; clear hK K
  refine Run.R ?_
  refine Run.nq ?_; refine Run.cW ?_ ?_
  · intro h
    have h : hgt a ≠ hgt b := by simpa using h
    refine Run.R ?_
    refine Run.rW [4] (hfin _ _ rfl rfl ?_)
    exact ⟨by simp [befR, h], rfl⟩
  intro h
  have h : hgt a = hgt b := by simpa using h
  have hbe : befR a b = gtL a b := by simp [befR, h]
  refine Run.R ?_
  refine Run.loopI (X := Nat) (fun i => ⟨48, [(0, true, .v (.sl false .int (a))), (1, true, .v (.sl false .int (b))), (7, true, .v (.int .i64 (i)))], []⟩) (fun i => i ≤ a.length ∧ i ≤ b.length ∧ a.take i = b.take i) (fun i => a.length - i) (0) (⟨Nat.zero_le _, Nat.zero_le _, rfl⟩) ?_ ?_
  · exact Le.sub (by first | rfl | simp) (by simp only [AW7, simprocAttr, hX]; try simp <;> try (first | rfl | exact ⟨rfl, rfl⟩ | exact ⟨rfl, rfl, rfl⟩))
  rintro i ⟨hi, hi2, ht⟩ ih
  try simp only []
  refine Run.R ?_
  refine Run.nq ?_; refine Run.cW ?_ ?_
  rotate_left
  · intro h2
    have h2 : i = a.length ∨ i = b.length := by
      by_cases h3 : i < a.length
      · by_cases h4 : i < b.length
        · rw [decide_eq_true (by omega : (i : Int) < a.length), decide_eq_true (by omega : (i : Int) < b.length)] at h2
          cases h2
        · omega
      · omega
    refine Run.exit rfl ?_; refine Run.nq ?_
    refine Run.R ?_
    refine Run.rW [4] (hfin _ _ rfl rfl ?_)
    exact ⟨by rw [hbe, gtL_no a b i hi hi2 ht h2], rfl⟩
  intro h2
  have h2 : i < a.length ∧ i < b.length := by
    by_cases h3 : i < a.length
    · by_cases h4 : i < b.length
      · exact ⟨h3, h4⟩
      · rw [decide_eq_true (by omega : (i : Int) < a.length), decide_eq_false (by omega : ¬ (i : Int) < b.length)] at h2
        cases h2
    · rw [decide_eq_false (by omega : ¬ (i : Int) < a.length)] at h2
      cases h2
  obtain ⟨h3, h4⟩ := h2
  refine Run.nq ?_; refine Run.regionD hC true [0,1,2,3,4,5,6,7,8] (by kernel_rfl) (fun K hK => ?_); simp only [AW7, simprocAttr, hX]; (repeat (with_reducible refine And.intro ?_ ?_); exact vc0)
  refine wE ?_; clear hK K
  refine Run.nq ?_; refine Run.cW ?_ ?_
  · intro h5
    have h5 : a.getD i 0 ≠ b.getD i 0 := by simpa using h5
    refine Run.nq ?_; refine Run.regionD hC true [0,1,2,3,4,5,6,7,8,9] (by kernel_rfl) (fun K hK => ?_); simp only [AW7, simprocAttr, hX]; (repeat (with_reducible refine And.intro ?_ ?_); exact vc0)
    refine wE ?_; clear hK K
    refine Run.rW [4] (hfin _ _ rfl rfl ?_)
    exact ⟨by rw [hbe, gtL_at a b i h3 h4 ht h5], rfl⟩
  intro h5
  have h5 : a.getD i 0 = b.getD i 0 := by simpa using h5
  refine Run.RW ?_
  refine Run.le ?_ (ih (i + 1) (⟨by omega, by omega, by rw [← take_snoc 0 a i h3, ← take_snoc 0 b i h4, ht, h5]⟩) (by (try simp only [List.length_append, List.length_cons, List.length_nil]); omega))
  exact Le.sub (by rfl) (by simp only [AW7, simprocAttr]; try simp)
def putR (w : List Int) : Bool → List (List Int) → List (List Int)
  | b, [] => if b then [] else [w]
  | b, x :: l => if b = false ∧ befR w x = true then w :: x :: putR w true l else x :: putR w b l
theorem putR_true (w : List Int) : ∀ l, putR w true l = l
  | [] => rfl
  | x :: l => by simp [putR, putR_true w l]
theorem putR_perm (w : List Int) : ∀ l, (putR w false l).Perm (w :: l)
  | [] => by simp [putR]
  | x :: l => by
    simp only [putR]
    split
    · rw [putR_true]
    · exact ((putR_perm w l).cons x).trans (.swap w x l)
def SmR (r : List Int) : Prop := r.length ≤ 4 ∧ Bnd 1000000000000000000 r
set_option maxHeartbeats 1000000 in
theorem c_spec_l7Put (ys : List (Nat × List Int)) (w : List Int) (hnd : (lb1 ys).Nodup) (hyl : ys.length ≤ 100000) (hw : SmR w) (hys : ∀ r ∈ rw2 ys, SmR r) (nn : Bool) :
    FunM B 165 [.own 0 0, .sl false .int w] .lrow ys nn (fun rs o => rs = [.own 1 0] ∧ ∃ ys', rw2 ys' = putR w false (rw2 ys) ∧ (lb1 ys').Nodup ∧ o = [.arr .lrow ys 0 nn, .arr .lrow ys' 0 true]) := by
  have hwl := hw.1
  refine FunM.walk B_ok (fn := Tryz.f165) (fun vs w => Tryz.call165 vs w) Tryz.func165 rfl (by rw [Tryz.ntmps165]; simp) (fun C hC hP hT hΓ hbt hfn hpin hfin => ?_); have hX := BX; rw [← hΓ, ← hbt.1, ← hbt.2] at hX; rw [Tryz.ntmps165]; simp only [AW7, simprocAttr, hX]
  refine Run.R ?_
  refine Run.R ?_
  refine Run.R ?_
  refine Run.R ?_
  refine Run.reKP hpin [0, 1, 5, 6, 7] [0, 1] rfl (by simp [oAt, gen0]) (by decide) (by simp) ?_; simp only [AR, AW7, simprocAttr]
  refine Run.loopI (X := List (Nat × List Int) × Bool × Nat) (fun x => ⟨47, [(0, true, .v (.own 0 0)), (1, true, .v (.sl false .int (w))), (5, true, .v (.own 1 0)), (6, true, .v (.bool (x.2.1))), (7, true, .v (.int .i64 (x.2.2)))], [.arr .lrow ys 0 nn, .arr .lrow (x.1) 0 true]⟩) (fun x => x.2.2 ≤ ys.length ∧ x.1.length ≤ 2 * x.2.2 ∧ rw2 x.1 ++ putR w x.2.1 (rw2 (ys.drop x.2.2)) = putR w false (rw2 ys) ∧ (lb1 x.1 ++ lb1 (ys.drop x.2.2)).Nodup) (fun x => ys.length - x.2.2) (([], false, 0)) (⟨Nat.zero_le _, by simp, rfl, hnd⟩) ?_ ?_
  · exact Le.sub (by first | rfl | simp) (by simp only [AW7, simprocAttr, hX]; try simp <;> try (first | rfl | exact ⟨rfl, rfl⟩ | exact ⟨rfl, rfl, rfl⟩))
  rintro ⟨zs, b, i⟩ ⟨hi, hzl, hE, hN⟩ ih
  try simp only []
  simp only [] at hi hzl hE hN
  refine Run.R ?_
  refine Run.nq ?_; refine Run.cW ?_ ?_
  rotate_left
  · intro h
    have hie : i = ys.length := by rw [decide_eq_false_iff_not] at h; omega
    refine Run.exit rfl ?_; refine Run.nq ?_
    refine Run.R ?_
    refine Run.nq ?_; refine Run.cW ?_ ?_
    · intro hb
      have hb : b = false := by simpa using hb
      subst hb
      refine Run.nq ?_; refine Run.regionW hC (fun K hK => ?_); refine wW ?_
      intro q hq
      have hN3 := lb_ins (w := w) hN (hq (.arr .lrow zs 0 true) (.tail _ (.head _)) _ _ _ rfl) (hq (.arr .lrow ys 0 nn) (.head _) _ _ _ rfl)
      rw [hie, List.drop_length] at hE hN3
      have e0 : lb1 ([] : List (Nat × List Int)) = [] := rfl
      rw [e0, List.append_nil] at hN3
      (repeat (with_reducible refine And.intro ?_ ?_); exact vc0)
      refine wE ?_; clear hK K
      refine Run.R ?_
      refine Run.reKP hpin [4] [0, 1] rfl (by simp [oAt, gen0]) (by decide) (by simp) ?_; simp only [AR, AW7, simprocAttr]
      refine Run.retW [4] (by decide) (by rw [hfn]; rfl) (by simp only [AW7, simprocAttr, hX]; rfl) (by simp only [AW7, simprocAttr, hX]) (hfin _ _ _ rfl rfl rfl ?_)
      exact ⟨rfl, _, by rw [← hE, rw2_app]; simp [putR, rw2], hN3, rfl⟩
    intro hb
    have hb : b = true := by simpa using hb
    subst hb
    refine Run.R ?_
    refine Run.reKP hpin [4] [0, 1] rfl (by simp [oAt, gen0]) (by decide) (by simp) ?_; simp only [AR, AW7, simprocAttr]
    rw [hie, List.drop_length] at hE hN
    have e0 : lb1 ([] : List (Nat × List Int)) = [] := rfl
    rw [e0, List.append_nil] at hN
    refine Run.retW [4] (by decide) (by rw [hfn]; rfl) (by simp only [AW7, simprocAttr, hX]; rfl) (by simp only [AW7, simprocAttr, hX]) (hfin _ _ _ rfl rfl rfl ?_)
    exact ⟨rfl, zs, by rw [← hE]; simp [putR, rw2], hN, rfl⟩
  intro h
  have h : i < ys.length := by rw [decide_eq_true_eq] at h; omega
  have hyi : SmR (ys.getD i (0, [])).2 := hys _ (by unfold rw2; rw [getD_eq h]; exact List.mem_map_of_mem (List.getElem_mem h))
  have hd : rw2 (ys.drop i) = (ys.getD i (0, [])).2 :: rw2 (ys.drop (i + 1)) := by rw [drop_cons' ys h]; rfl
  rw [hd] at hE
  simp only [putR] at hE
  have hN2 := lb_step h hN
  by_cases hlt : b = false ∧ befR w (ys.getD i (0, [])).2 = true
  · rw [if_pos hlt] at hE
    obtain ⟨rfl, hl1⟩ := hlt
    refine Run.nq ?_; refine Run.regionW hC (fun K hK => ?_); refine wW ?_
    refine .inr ⟨rfl, ?_⟩
    refine FunA.cW hP hT (c_spec_l7Before w (ys.getD i (0, [])).2 hw.2 hyi.2 hw.1 hyi.1) ?_
    rintro rs o ⟨rfl, rfl⟩
    rw [hl1]
    refine wW ?_
    refine wE ?_; clear hK K
    refine Run.nq ?_; refine Run.cW ?_ ?_
    rotate_left
    · intro h; cases h
    intro _
    refine Run.nq ?_; refine Run.regionW hC (fun K hK => ?_); refine wW ?_
    intro q hq
    have hN3 := lb_ins (w := w) hN (hq (.arr .lrow zs 0 true) (.tail _ (.head _)) _ _ _ rfl) (hq (.arr .lrow ys 0 nn) (.head _) _ _ _ rfl)
    (repeat (with_reducible refine And.intro ?_ ?_); exact vc0)
    refine wE ?_; clear hK K
    refine Run.R ?_
    refine Run.R ?_
    have hN4 := lb_step h hN3
    refine Run.reKP hpin [0, 1, 5, 6, 7] [0, 1] rfl (by simp [oAt, gen0]) (by decide) (by simp) ?_; simp only [AR, AW7, simprocAttr]
    refine Run.RW ?_
    refine Run.le ?_ (ih ((zs ++ [(q, w)] ++ [((ys.getD i (0, [])).1, (ys.getD i (0, [])).2)], true, i + 1)) (⟨h, by simp only [List.length_append, List.length_cons, List.length_nil]; omega, by rw [rw2_app, rw2_app, List.append_assoc, List.append_assoc, ← hE]; simp [rw2], hN4⟩) (by (try simp only [List.length_append, List.length_cons, List.length_nil]); omega))
    exact Le.sub (by rfl) (by simp only [AW7, simprocAttr]; try simp)
  rw [if_neg hlt] at hE
  cases b with
  | true =>
    refine Run.nq ?_; refine Run.regionW hC (fun K hK => ?_); refine wW ?_
    refine .inl (CallG.off (.bool false) ?_)
    refine wW ?_
    refine wE ?_; clear hK K
    refine Run.nq ?_; refine Run.cW ?_ ?_
    · intro h; cases h
    intro _
    refine Run.R ?_
    refine Run.reKP hpin [0, 1, 5, 6, 7] [0, 1] rfl (by simp [oAt, gen0]) (by decide) (by simp) ?_; simp only [AR, AW7, simprocAttr]
    refine Run.RW ?_
    refine Run.le ?_ (ih ((zs ++ [((ys.getD i (0, [])).1, (ys.getD i (0, [])).2)], true, i + 1)) (⟨h, by simp; omega, by rw [rw2_app, List.append_assoc, ← hE]; simp [rw2], hN2⟩) (by (try simp only [List.length_append, List.length_cons, List.length_nil]); omega))
    exact Le.sub (by rfl) (by simp only [AW7, simprocAttr]; try simp)
  | false =>
    have hl0 : befR w (ys.getD i (0, [])).2 = false := by simpa using hlt
    refine Run.nq ?_; refine Run.regionW hC (fun K hK => ?_); refine wW ?_
    refine .inr ⟨rfl, ?_⟩
    refine FunA.cW hP hT (c_spec_l7Before w (ys.getD i (0, [])).2 hw.2 hyi.2 hw.1 hyi.1) ?_
    rintro rs o ⟨rfl, rfl⟩
    rw [hl0]
    refine wW ?_
    refine wE ?_; clear hK K
    refine Run.nq ?_; refine Run.cW ?_ ?_
    · intro h; cases h
    intro _
    refine Run.R ?_
    refine Run.reKP hpin [0, 1, 5, 6, 7] [0, 1] rfl (by simp [oAt, gen0]) (by decide) (by simp) ?_; simp only [AR, AW7, simprocAttr]
    refine Run.RW ?_
    refine Run.le ?_ (ih ((zs ++ [((ys.getD i (0, [])).1, (ys.getD i (0, [])).2)], false, i + 1)) (⟨h, by simp; omega, by rw [rw2_app, List.append_assoc, ← hE]; simp [rw2], hN2⟩) (by (try simp only [List.length_append, List.length_cons, List.length_nil]); omega))
    exact Le.sub (by rfl) (by simp only [AW7, simprocAttr]; try simp)
theorem sq_sm {c : List (List Int)} {w : List Int} (hW : WordP c w) (k : Nat) (hk : k < w.length) : SmR (sq c w k) := by
  have h4 := hW.1.2.1
  refine ⟨by rw [sq_len]; exact h4, ?_⟩
  have h := actR_small hW.1 (letters_take hW.2.2 k) (by have := hW.2.1; simp; omega) (w.getD k 0).toNat
  intro x hx
  have := h x hx
  omega
set_option maxHeartbeats 1000000 in
theorem c_spec_InversionsOf (c : List (List Int)) (w : List Int) (hW : WordP c w) :
    FunA B 132 [.sl false (.row false) c, .sl false .int w] (fun rs o => rs = [.own 0 0] ∧ ∃ ys, (rw2 ys).Perm (seqL c (redL c w)) ∧ o = [.arr .lrow ys 0 true]) := by
  have hc := hW.1
  have hn := hc.2.1
  have h15 := hW.2.1
  have hwb : wordB c w = true := wordB_iff.2 hW
  obtain ⟨a1, a2, a3, a4, a5⟩ := red_spec hc hW.2.2 (by have := hW.2.1; omega)
  have hWx : WordP c (redL c w) := ⟨hc, by have := hW.2.1; omega, a1⟩
  have hnf := nfW_on hwb
  refine FunA.walk B_ok (fn := Tryz.f132) (fun vs w => Tryz.call132 vs w) Tryz.func132 rfl (by rw [Tryz.ntmps132]; simp) (fun C hC hP hT hΓ hbt hfn hpin hfin => ?_); have hX := BX; rw [← hΓ, ← hbt.1, ← hbt.2] at hX; rw [Tryz.ntmps132]; simp only [AW7, simprocAttr, hX]
  refine Run.R ?_
  refine Run.R ?_
  refine Run.nq ?_; refine Run.regionW hC (fun K hK => ?_); refine wW ?_
  refine FunA.cW hP hT (c_spec_NormalForm c w (by omega)) ?_
  rintro rs o ⟨rfl, rfl⟩
  refine wW ?_
  refine wE ?_; clear hK K
  simp only [hnf, hwb]
  refine Run.nq ?_; refine Run.regionW hC (fun K hK => ?_); refine wW ?_
  refine FunA.cW hP hT (c_spec_RootSequence c (redL c w) hWx) ?_
  rintro rs o ⟨rfl, zs, hz, rfl⟩
  refine wW ?_
  refine wE ?_; clear hK K
  have hzl : zs.length = (redL c w).length := by have := congrArg List.length hz; simpa [seqL] using this
  refine Run.R ?_
  refine Run.reK hpin [0, 1, 5, 7, 8, 9] [0, 2] (by decide) (by simp) ?_; simp only [AR, AW7, simprocAttr]
  refine Run.loopI (X := Nat × List (Nat × List Int)) (fun m => ⟨36, [(5, true, .v (.own 0 0)), (7, true, .v (.bool (true))), (8, true, .v (.own 1 0)), (9, true, .v (.int .i64 (m.1)))], [.arr .lrow (m.2) 0 true, .arr .lrow (zs) 0 true]⟩) (fun m => m.1 ≤ zs.length ∧ m.2.length = m.1 ∧ (rw2 m.2).Perm ((seqL c (redL c w)).take m.1) ∧ (lb1 m.2).Nodup) (fun m => zs.length - m.1) ((0, [])) (⟨Nat.zero_le _, rfl, by simp [rw2], by simp [lb1]⟩) ?_ ?_
  · exact Le.sub (by first | rfl | simp) (by simp only [AW7, simprocAttr, hX]; try simp <;> try (first | rfl | exact ⟨rfl, rfl⟩ | exact ⟨rfl, rfl, rfl⟩))
  rintro ⟨m, ys⟩ ⟨hm, hyl, hpm, hN⟩ ih
  try simp only []
  simp only [] at hm hyl hpm hN
  refine Run.R ?_
  refine Run.nq ?_; refine Run.cW ?_ ?_
  rotate_left
  · intro h
    have h : m = zs.length := by
      by_cases h3 : m < zs.length
      · rw [decide_eq_true (by omega : (m : Int) < zs.length)] at h; cases h
      · omega
    refine Run.exit rfl ?_; refine Run.nq ?_
    refine Run.R ?_
    refine Run.reK hpin [4] [0] (by decide) (by simp) ?_; simp only [AR, AW7, simprocAttr]
    refine Run.rW [4] (hfin _ _ rfl rfl ?_)
    refine ⟨rfl, ys, ?_, rfl⟩
    rw [h, List.take_of_length_le (by simp [seqL]; omega)] at hpm
    exact hpm
  intro h
  have h : m < zs.length := by
    by_cases h3 : m < zs.length
    · exact h3
    · rw [decide_eq_false (by omega : ¬ (m : Int) < zs.length)] at h; cases h
  have hg : (zs.getD m (0, [])).2 = sq c (redL c w) m := ys_get hz (by omega)
  have hsm := sq_sm hWx m (by omega)
  have hmem : ∀ r ∈ rw2 ys, SmR r := fun r hr => by
    have := List.mem_of_mem_take (hpm.mem_iff.1 hr)
    obtain ⟨k, hk, rfl⟩ := List.mem_map.1 this
    exact sq_sm hWx k (by simpa using hk)
  refine Run.nq ?_; refine Run.regionW hC (fun K hK => ?_); refine wW ?_
  simp only [hg]
  refine FunM.call hP hT (c_spec_l7Put ys (sq c (redL c w) m) hN (by omega) hsm hmem true) 0 0 (by simp only [AW7, simprocAttr]; rfl) (by simp) rfl (by simp only [AW7, simprocAttr]; try simp) ?_
  rintro rs o' obs' ⟨rfl, ys', hE3, hN3, h7⟩
  obtain ⟨rfl, rfl⟩ := List.cons.inj h7
  refine wW ?_
  refine wE ?_; clear hK K
  have hpn : (rw2 ys').Perm ((seqL c (redL c w)).take (m + 1)) := by
    rw [hE3, ← take_snoc [] (seqL c (redL c w)) m (by simp [seqL]; omega)]
    refine (putR_perm _ _).trans ?_
    have e : (seqL c (redL c w)).getD m [] = sq c (redL c w) m := by simp [seqL, (by omega : m < (redL c w).length)]
    rw [e]
    exact (hpm.cons _).trans (List.perm_append_singleton _ _).symm
  have hl2 : ys'.length = m + 1 := by
    have := hpn.length_eq
    simp [rw2, seqL] at this
    omega
  refine Run.reK hpin [5, 7, 8, 9] [2, 1] (by decide) (by simp) ?_; simp only [AR, AW7, simprocAttr]
  refine Run.RW ?_
  refine Run.le ?_ (ih ((m + 1, ys')) (⟨h, hl2, hpn, hN3⟩) (by (try simp only [List.length_append, List.length_cons, List.length_nil]); omega))
  exact Le.sub (by rfl) (by simp only [AW7, simprocAttr]; try simp)
theorem rwgI (ys : List (Nat × List Int)) (k : Nat) : (ys.getD k (0, [])).2 = (rw2 ys).getD k [] := by
  simp only [rw2, List.getD_eq_getElem?_getD, List.getElem?_map]
  cases ys[k]? <;> rfl
theorem com_count {a b sa sb : List (List Int)} (ha : a.Perm sa) (hb : b.Perm sb) : (a.filter fun r => decide (r ∈ b)).length = (sa.filter fun r => decide (r ∈ sb)).length := by
  have e : (fun r : List Int => decide (r ∈ b)) = fun r => decide (r ∈ sb) := by funext r; simp [hb.mem_iff]
  rw [e]
  exact (ha.filter _).length_eq
theorem c_spec_CommonInversions (c : List (List Int)) (u v : List Int) (hu : WordP c u) (hv : WordP c v) :
    FunA B 36 [.sl false (.row false) c, .sl false .int u, .sl false .int v] (fun rs o => rs = [.int .i64 (comN c u v)] ∧ o = []) := by
  have h4 := hu.1.2.1
  have big : ∀ (w : List Int) (l : List (List Int)), WordP c w → l.Perm (seqL c (redL c w)) → l.length ≤ 31 ∧ ∀ r ∈ l, r.length ≤ 4 := fun w l hW hP => by
    obtain ⟨a1, a2, a3, a4, a5⟩ := red_spec hW.1 hW.2.2 (by have := hW.2.1; omega)
    have h15 := hW.2.1
    refine ⟨by rw [hP.length_eq]; simp [seqL]; omega, fun r hr => ?_⟩
    obtain ⟨k, hk, rfl⟩ := List.mem_map.1 (hP.mem_iff.1 hr)
    rw [sq_len]; exact h4
  refine FunA.walk B_ok (fn := Tryz.f36) (fun vs w => Tryz.call36 vs w) Tryz.func36 rfl (by rw [Tryz.ntmps36]; simp) (fun C hC hP hT hΓ hbt hfn hpin hfin => ?_); have hX := BX; rw [← hΓ, ← hbt.1, ← hbt.2] at hX; rw [Tryz.ntmps36]; simp only [AW7, simprocAttr, hX]
  refine Run.R ?_
  refine Run.nq ?_; refine Run.regionW hC (fun K hK => ?_); refine wW ?_
  refine FunA.cW hP hT (c_spec_InversionsOf c u hu) ?_
  rintro rs o ⟨rfl, xs, hx, rfl⟩
  refine wW ?_
  refine wE ?_; clear hK K
  refine Run.nq ?_; refine Run.regionW hC (fun K hK => ?_); refine wW ?_
  refine FunA.cW hP hT (c_spec_InversionsOf c v hv) ?_
  rintro rs o ⟨rfl, ys, hy, rfl⟩
  refine wW ?_
  refine wE ?_; clear hK K
  obtain ⟨x1, x2⟩ := big u _ hu hx
  obtain ⟨y1, y2⟩ := big v _ hv hy
  have hxl : (rw2 xs).length = xs.length := by simp [rw2]
  have hyl : (rw2 ys).length = ys.length := by simp [rw2]
  refine Run.R ?_
  refine Run.R ?_
  refine Run.reK hpin [7, 8, 9, 10] [0, 1] (by decide) (by simp) ?_; simp only [AR, AW7, simprocAttr]
  refine Run.loopI (X := Nat) (fun i => ⟨32, [(7, true, .v (.own 0 0)), (8, true, .v (.own 1 0)), (9, true, .v (.int .i64 ((((rw2 xs).take i).filter fun r => decide (r ∈ rw2 ys)).length))), (10, true, .v (.int .i64 (i)))], [.arr .lrow (xs) 0 true, .arr .lrow (ys) 0 true]⟩) (fun i => i ≤ xs.length) (fun i => xs.length - i) (0) (Nat.zero_le _) ?_ ?_
  · exact Le.sub (by first | rfl | simp) (by simp only [AW7, simprocAttr, hX]; try simp <;> try (first | rfl | exact ⟨rfl, rfl⟩ | exact ⟨rfl, rfl, rfl⟩))
  rintro i hi ih
  try simp only []
  refine Run.R ?_
  refine Run.nq ?_; refine Run.cW ?_ ?_
  rotate_left
  · intro h
    have h : i = xs.length := by rw [decide_eq_false_iff_not] at h; omega
    refine Run.exit rfl ?_; refine Run.nq ?_
    refine Run.R ?_
    refine Run.reK hpin [6] [] (by decide) (by simp) ?_; simp only [AR, AW7, simprocAttr]
    refine Run.rW [6] (hfin _ _ rfl rfl ?_)
    refine ⟨?_, rfl⟩
    rw [h, List.take_of_length_le (by omega), com_count hx hy]
    rfl
  intro h
  have h : i < xs.length := by rw [decide_eq_true_eq] at h; omega
  have hg : (xs.getD i (0, [])).2 = (rw2 xs).getD i [] := rwgI xs i
  have hsn := take_snoc [] (rw2 xs) i (by omega)
  have hfl : ∀ j, (((rw2 xs).take j).filter fun r => decide (r ∈ rw2 ys)).length ≤ 31 := fun j => by
    refine Nat.le_trans (List.length_filter_le _ _) ?_
    simp; omega
  have hfi := hfl i
  refine Run.nq ?_; refine Run.regionW hC (fun K hK => ?_); refine wW ?_
  refine FunA.callW hP hT (c_spec_l7In (rw2 ys) (xs.getD i (0, [])).2 (by omega) (fun r hr => by have := y2 r hr; omega)) (by simp only [AW7, simprocAttr]; first | done | exact ⟨⟨rfl, rfl⟩, rfl, rfl⟩ | simp [argO, convV, rw2]) ?_
  rintro rs o ⟨rfl, rfl⟩
  refine wW ?_
  refine wE ?_; clear hK K
  refine Run.nq ?_; refine Run.cW ?_ ?_
  · intro h2
    have h2 : (rw2 xs).getD i [] ∈ rw2 ys := by rw [← hg]; simpa using h2
    have e : (((rw2 xs).take (i + 1)).filter fun r => decide (r ∈ rw2 ys)).length = (((rw2 xs).take i).filter fun r => decide (r ∈ rw2 ys)).length + 1 := by
      rw [← hsn, List.filter_append, List.length_append]
      generalize (rw2 xs).getD i [] = r at h2 ⊢
      simp [h2]
    refine Run.RW ?_
    refine Run.RW ?_
    refine Run.reK hpin [7, 8, 9, 10] [0, 1] (by decide) (by simp) ?_; simp only [AR, AW7, simprocAttr]
    refine Run.le ?_ (ih (i + 1) h (by omega))
    exact Le.sub (by rfl) (by rw [e]; simp only [AW7, simprocAttr]; try simp)
  · intro h2
    have h2 : ¬ (rw2 xs).getD i [] ∈ rw2 ys := by rw [← hg]; simpa using h2
    have e : (((rw2 xs).take (i + 1)).filter fun r => decide (r ∈ rw2 ys)).length = (((rw2 xs).take i).filter fun r => decide (r ∈ rw2 ys)).length := by
      rw [← hsn, List.filter_append, List.length_append]
      generalize (rw2 xs).getD i [] = r at h2 ⊢
      simp [h2]
    refine Run.RW ?_
    refine Run.reK hpin [7, 8, 9, 10] [0, 1] (by decide) (by simp) ?_; simp only [AR, AW7, simprocAttr]
    refine Run.le ?_ (ih (i + 1) h (by omega))
    exact Le.sub (by rfl) (by rw [e]; simp only [AW7, simprocAttr]; try simp)
end Go.Proofs.YtojcdgdbffmlpaaGreat

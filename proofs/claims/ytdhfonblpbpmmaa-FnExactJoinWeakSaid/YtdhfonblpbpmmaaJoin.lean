/- The shortest of what lies above two elements, on both sides. -/
import Derived.Test.YtdhfonblpbpmmaaMeet2
import Derived.Test.YtdhfonblpbpmmaaLon
set_option linter.unusedVariables false
set_option linter.unusedSimpArgs false
namespace Go.Proofs.Ytdhfonblpbpmmaa
open Go Go.Aw Go.Cox

noncomputable def jnP (c : List (List Int)) (u v : List Int) : Bool := isF c && decide ((lonL c).length ≤ 15) && wordB c u && wordB c v
noncomputable def jnU (c : List (List Int)) (u : List Int) : List Int := redL c (u ++ lonL c)
noncomputable def jnB (c : List (List Int)) (u v : List Int) : Bool := jnP c u v && mtB c (jnU c u) (jnU c v)
noncomputable def jnX (c : List (List Int)) (u v : List Int) : List Int := if jnB c u v then redL c (mtX c (jnU c u) (jnU c v) ++ lonL c) else []
theorem jnB_off {c : List (List Int)} {u v : List Int} (h : jnP c u v = false) : jnB c u v = false ∧ jnX c u v = [] := by
  have e : jnB c u v = false := by simp [jnB, h]
  exact ⟨e, by simp [jnX, e]⟩
theorem jnB_on {c : List (List Int)} {u v : List Int} (h : jnP c u v = true) : jnB c u v = mtB c (jnU c u) (jnU c v) := by simp [jnB, h]
theorem jnX_len (c : List (List Int)) (u v : List Int) : (jnX c u v).length ≤ 31 := by
  unfold jnX
  split
  · rename_i h
    have hp : jnP c u v = true := by revert h; unfold jnB; cases jnP c u v <;> simp
    simp only [jnP, Bool.and_eq_true, decide_eq_true_eq] at hp
    have hF := isF_iff.1 hp.1.1.1
    have hm : mtB c (jnU c u) (jnU c v) = true := by rw [← h]; simp [jnB, jnP, hp]
    have h1 := mtX_word (c := c) (u := jnU c u) (v := jnU c v)
    have := (red_spec hF.1 (letters_append.2 ⟨h1.2 hm, (lon_spec hF).2⟩) (by simp; omega)).2.1
    simp at this
    omega
  · simp

theorem c_impl_JoinWeak (c : List (List Int)) (u v : List Int) (hcl : c.length ≤ 1048576) :
    FunA B 23 [.sl false (.row false) c, .sl false .int u, .sl false .int v] (fun rs o => rs = [.own 0 0, .bool (jnB c u v)] ∧ o = [.arr .int (jnX c u v) 0 true]) := by
  refine FunA.walk B_ok (fn := Try.f23) (fun vs w => Try.call23 vs w) Try.func23 rfl (by rw [Try.ntmps23]; simp) (fun C hC hP hT hΓ hbt hfn hpin hfin => ?_); have hX := BX; rw [← hΓ, ← hbt.1, ← hbt.2] at hX; rw [Try.ntmps23]; simp only [AW6, simprocAttr, hX]
  refine Run.nq ?_; refine Run.regionW hC (fun K hK => ?_); simp only [AW6, simprocAttr, hX]; (repeat (with_reducible refine And.intro ?_ ?_); exact vc0); refine hK _ ?_; clear hK K; refine Run.nq ?_
  refine Run.nq ?_; refine Run.regionW hC (fun K hK => ?_); simp only [AW6, simprocAttr, hX]; (repeat (with_reducible refine And.intro ?_ ?_); exact vc0)
  refine FunA.callW hP hT (c_impl_IsFinite c) (by simp only [AW6, simprocAttr]) ?_
  rintro rs o ⟨rfl, rfl⟩
  (try simp only [AW6, simprocAttr, hX]); (repeat (with_reducible refine And.intro ?_ ?_); exact vc0)
  refine .inl (FunA.callG hP hT (c_impl_IsWord c u) (fun _ => rfl) (fun _ => by simp only [AW6, simprocAttr]) ?_)
  (try simp only [AW6, simprocAttr, hX]); (repeat (with_reducible refine And.intro ?_ ?_); exact vc0)
  refine .inl (FunA.callG hP hT (c_impl_IsWord c v) (fun _ => rfl) (fun _ => by simp only [AW6, simprocAttr]) ?_)
  (try simp only [AW6, simprocAttr, hX]); (repeat (with_reducible refine And.intro ?_ ?_); exact vc0)
  (repeat (with_reducible refine And.intro ?_ ?_); exact vc0); refine hK _ ?_; clear hK K; refine Run.nq ?_
  refine Run.nq ?_; refine Run.condW (by simp only [AW6, simprocAttr, hX]; rfl) (by simp only [AW6, simprocAttr, hX]) ?_ ?_
  · intro h
    have hp : jnP c u v = false := by
      revert h
      cases h1 : isF c <;> cases h2 : wordB c u <;> cases h3 : wordB c v <;> simp [jnP, h1, h2, h3]
    obtain ⟨e1, e2⟩ := jnB_off hp
    refine Run.nq ?_; refine Run.regionW hC (fun K hK => ?_); simp only [AW6, simprocAttr, hX]; (repeat (with_reducible refine And.intro ?_ ?_); exact vc0); refine hK _ ?_; clear hK K; refine Run.nq ?_
    refine Run.reK hpin [6, 7] [0] (by decide) (by simp) ?_; simp only [AR, AW6, simprocAttr]
    refine Run.retW [6, 7] (by decide) (by rw [hfn]; rfl) (by simp only [AW6, simprocAttr, hX]; rfl) (by simp only [AW6, simprocAttr, hX]) (hfin _ _ rfl rfl ?_)
    rw [e1, e2]
    exact ⟨rfl, rfl⟩
  intro h
  have hf : isF c = true := by revert h; cases h1 : isF c <;> simp
  have hu : wordB c u = true := by revert h; cases h1 : wordB c u <;> simp [hf]
  have hv : wordB c v = true := by revert h; cases h1 : wordB c v <;> simp [hf, hu]
  have hF := isF_iff.1 hf
  obtain ⟨hc, u2, u3⟩ := wordB_iff.1 hu
  obtain ⟨_, v2, v3⟩ := wordB_iff.1 hv
  obtain ⟨l1, l2⟩ := lon_spec hF
  refine Run.nq ?_; refine Run.regionW hC (fun K hK => ?_); simp only [AW6, simprocAttr, hX]; (repeat (with_reducible refine And.intro ?_ ?_); exact vc0)
  refine FunA.callW hP hT (c_impl_longestElement c hF) (by simp only [AW6, simprocAttr]) ?_
  rintro rs o ⟨rfl, rfl⟩
  (try simp only [AW6, simprocAttr, hX]); (repeat (with_reducible refine And.intro ?_ ?_); exact vc0)
  (repeat (with_reducible refine And.intro ?_ ?_); exact vc0); refine hK _ ?_; clear hK K; refine Run.nq ?_
  refine Run.nq ?_; refine Run.regionW hC (fun K hK => ?_); simp only [AW6, simprocAttr, hX]; (repeat (with_reducible refine And.intro ?_ ?_); exact vc0); refine hK _ ?_; clear hK K; refine Run.nq ?_
  refine Run.nq ?_; refine Run.condW (by simp only [AW6, simprocAttr, hX]; rfl) (by simp only [AW6, simprocAttr, hX]) ?_ ?_
  · intro h4
    have h4 : ¬ (lonL c).length ≤ 15 := by rw [decide_eq_true_eq] at h4; omega
    obtain ⟨e1, e2⟩ := jnB_off (u := u) (v := v) (c := c) (by simp [jnP, h4])
    refine Run.nq ?_; refine Run.regionW hC (fun K hK => ?_); simp only [AW6, simprocAttr, hX]; (repeat (with_reducible refine And.intro ?_ ?_); exact vc0); refine hK _ ?_; clear hK K; refine Run.nq ?_
    refine Run.reK hpin [6, 7] [1] (by decide) (by simp) ?_; simp only [AR, AW6, simprocAttr]
    refine Run.retW [6, 7] (by decide) (by rw [hfn]; rfl) (by simp only [AW6, simprocAttr, hX]; rfl) (by simp only [AW6, simprocAttr, hX]) (hfin _ _ rfl rfl ?_)
    rw [e1, e2]
    exact ⟨rfl, rfl⟩
  intro h4
  have h4 : (lonL c).length ≤ 15 := by rw [decide_eq_false_iff_not] at h4; omega
  have hp : jnP c u v = true := by simp [jnP, hf, hu, hv, h4]
  have eB := jnB_on hp
  have ul := letters_append.2 ⟨u3, l2⟩
  have vl := letters_append.2 ⟨v3, l2⟩
  have ur := (red_spec hc ul (by simp; omega)).2.1
  have vr := (red_spec hc vl (by simp; omega)).2.1
  simp at ur vr
  refine Run.nq ?_; refine Run.regionW hC (fun K hK => ?_); simp only [AW6, simprocAttr, hX]; (repeat (with_reducible refine And.intro ?_ ?_); exact vc0)
  refine FunA.callW hP hT (c_impl_ConcatWords u (lonL c) (by omega) (by omega)) (by simp only [AW6, simprocAttr]) ?_
  rintro rs o ⟨nn1, rfl, rfl⟩
  (try simp only [AW6, simprocAttr, hX]); (repeat (with_reducible refine And.intro ?_ ?_); exact vc0)
  refine FunA.callW hP hT (c_impl_reduced c (u ++ lonL c) hc ul (by simp; omega)) (by simp only [AW6, simprocAttr]) ?_
  rintro rs o ⟨rfl, rfl⟩
  (try simp only [AW6, simprocAttr, hX]); (repeat (with_reducible refine And.intro ?_ ?_); exact vc0)
  refine FunA.callW hP hT (c_impl_ConcatWords v (lonL c) (by omega) (by omega)) (by simp only [AW6, simprocAttr]) ?_
  rintro rs o ⟨nn2, rfl, rfl⟩
  (try simp only [AW6, simprocAttr, hX]); (repeat (with_reducible refine And.intro ?_ ?_); exact vc0)
  refine FunA.callW hP hT (c_impl_reduced c (v ++ lonL c) hc vl (by simp; omega)) (by simp only [AW6, simprocAttr]) ?_
  rintro rs o ⟨rfl, rfl⟩
  (try simp only [AW6, simprocAttr, hX]); (repeat (with_reducible refine And.intro ?_ ?_); exact vc0)
  refine FunA.callW hP hT (c_impl_MeetWeak c (jnU c u) (jnU c v) hcl) (by simp only [AW6, simprocAttr]; exact ⟨rfl, rfl⟩) ?_
  rintro rs o ⟨rfl, rfl⟩
  (try simp only [AW6, simprocAttr, hX]); (repeat (with_reducible refine And.intro ?_ ?_); exact vc0)
  (repeat (with_reducible refine And.intro ?_ ?_); exact vc0); refine hK _ ?_; clear hK K; refine Run.nq ?_
  obtain ⟨m1, m2⟩ := mtX_word (c := c) (u := jnU c u) (v := jnU c v)
  generalize hgm : mtX c (jnU c u) (jnU c v) = m at *
  refine Run.nq ?_; refine Run.regionW hC (fun K hK => ?_); simp only [AW6, simprocAttr, hX]; (repeat (with_reducible refine And.intro ?_ ?_); exact vc0); refine hK _ ?_; clear hK K; refine Run.nq ?_
  refine Run.nq ?_; refine Run.condW (by simp only [AW6, simprocAttr, hX]; rfl) (by simp only [AW6, simprocAttr, hX]) ?_ ?_
  · intro h5
    have h5 : mtB c (jnU c u) (jnU c v) = false := by simpa using h5
    have e2 : jnX c u v = [] := by simp [jnX, eB, h5]
    refine Run.nq ?_; refine Run.regionW hC (fun K hK => ?_); simp only [AW6, simprocAttr, hX]; (repeat (with_reducible refine And.intro ?_ ?_); exact vc0); refine hK _ ?_; clear hK K; refine Run.nq ?_
    refine Run.reK hpin [6, 7] [6] (by decide) (by simp) ?_; simp only [AR, AW6, simprocAttr]
    refine Run.retW [6, 7] (by decide) (by rw [hfn]; rfl) (by simp only [AW6, simprocAttr, hX]; rfl) (by simp only [AW6, simprocAttr, hX]) (hfin _ _ rfl rfl ?_)
    rw [eB, e2, h5]
    exact ⟨rfl, rfl⟩
  intro h5
  have h5 : mtB c (jnU c u) (jnU c v) = true := by simpa using h5
  have e2 : jnX c u v = redL c (m ++ lonL c) := by simp [jnX, eB, h5, hgm]
  have ml := letters_append.2 ⟨m2 h5, l2⟩
  refine Run.nq ?_; refine Run.regionW hC (fun K hK => ?_); simp only [AW6, simprocAttr, hX]; (repeat (with_reducible refine And.intro ?_ ?_); exact vc0)
  refine FunA.callW hP hT (c_impl_ConcatWords m (lonL c) (by omega) (by omega)) (by simp only [AW6, simprocAttr]) ?_
  rintro rs o ⟨nn3, rfl, rfl⟩
  (try simp only [AW6, simprocAttr, hX]); (repeat (with_reducible refine And.intro ?_ ?_); exact vc0)
  refine FunA.callW hP hT (c_impl_reduced c (m ++ lonL c) hc ml (by simp; omega)) (by simp only [AW6, simprocAttr]) ?_
  rintro rs o ⟨rfl, rfl⟩
  (try simp only [AW6, simprocAttr, hX]); (repeat (with_reducible refine And.intro ?_ ?_); exact vc0)
  (repeat (with_reducible refine And.intro ?_ ?_); exact vc0); refine hK _ ?_; clear hK K; refine Run.nq ?_
  refine Run.reK hpin [6, 7] [7] (by decide) (by simp) ?_; simp only [AR, AW6, simprocAttr]
  refine Run.retW [6, 7] (by decide) (by rw [hfn]; rfl) (by simp only [AW6, simprocAttr, hX]; rfl) (by simp only [AW6, simprocAttr, hX]) (hfin _ _ rfl rfl ?_)
  rw [eB, e2, h5]
  exact ⟨rfl, rfl⟩

theorem lonE_on {c : List (List Int)} (h : isF c = true) : lonE c = lonL c := by simp [lonE, h]

theorem c_spec_JoinWeak (c : List (List Int)) (u v : List Int) (hcl : c.length ≤ 1048576) :
    FunA B 22 [.sl false (.row false) c, .sl false .int u, .sl false .int v] (fun rs o => rs = [.own 0 0, .bool (jnB c u v)] ∧ o = [.arr .int (jnX c u v) 0 true]) := by
  refine FunA.walk B_ok (fn := Try.f22) (fun vs w => Try.call22 vs w) Try.func22 rfl (by rw [Try.ntmps22]; simp) (fun C hC hP hT hΓ hbt hfn hpin hfin => ?_); have hX := BX; rw [← hΓ, ← hbt.1, ← hbt.2] at hX; rw [Try.ntmps22]; simp only [AW6, simprocAttr, hX]
  refine Run.nq ?_; refine Run.regionW hC (fun K hK => ?_); simp only [AW6, simprocAttr, hX]; (repeat (with_reducible refine And.intro ?_ ?_); exact vc0); refine hK _ ?_; clear hK K; refine Run.nq ?_
  refine Run.nq ?_; refine Run.regionW hC (fun K hK => ?_); simp only [AW6, simprocAttr, hX]; (repeat (with_reducible refine And.intro ?_ ?_); exact vc0)
  refine FunA.callW hP hT (c_spec_LongestElement c) (by simp only [AW6, simprocAttr]) ?_
  rintro rs o ⟨rfl, rfl⟩
  (try simp only [AW6, simprocAttr, hX]); (repeat (with_reducible refine And.intro ?_ ?_); exact vc0)
  (repeat (with_reducible refine And.intro ?_ ?_); exact vc0); refine hK _ ?_; clear hK K; refine Run.nq ?_
  refine Run.nq ?_; refine Run.regionW hC (fun K hK => ?_); simp only [AW6, simprocAttr, hX]; (repeat (with_reducible refine And.intro ?_ ?_); exact vc0)
  refine .inl (FunA.callG hP hT (c_spec_IsWord c u hcl) (fun _ => rfl) (fun _ => by simp only [AW6, simprocAttr]) ?_)
  (try simp only [AW6, simprocAttr, hX]); (repeat (with_reducible refine And.intro ?_ ?_); exact vc0)
  refine .inl (FunA.callG hP hT (c_spec_IsWord c v hcl) (fun _ => rfl) (fun _ => by simp only [AW6, simprocAttr]) ?_)
  (try simp only [AW6, simprocAttr, hX]); (repeat (with_reducible refine And.intro ?_ ?_); exact vc0)
  (repeat (with_reducible refine And.intro ?_ ?_); exact vc0); refine hK _ ?_; clear hK K; refine Run.nq ?_
  refine Run.nq ?_; refine Run.condW (by simp only [AW6, simprocAttr, hX]; rfl) (by simp only [AW6, simprocAttr, hX]) ?_ ?_
  · intro h
    have hp : jnP c u v = false := by
      revert h
      cases h1 : isF c with
      | false => intro _; simp [jnP, h1]
      | true =>
        rw [lonE_on h1]
        by_cases h4 : (lonL c).length ≤ 15
        · rw [decide_eq_false (by omega : ¬ ((lonL c).length : Int) > 15)]
          cases h2 : wordB c u <;> cases h3 : wordB c v <;> simp [jnP, h1, h2, h3]
        · intro _; simp [jnP, h4]
    obtain ⟨e1, e2⟩ := jnB_off hp
    refine Run.nq ?_; refine Run.regionW hC (fun K hK => ?_); simp only [AW6, simprocAttr, hX]; (repeat (with_reducible refine And.intro ?_ ?_); exact vc0); refine hK _ ?_; clear hK K; refine Run.nq ?_
    refine Run.reK hpin [6, 7] [1] (by decide) (by simp) ?_; simp only [AR, AW6, simprocAttr]
    refine Run.retW [6, 7] (by decide) (by rw [hfn]; rfl) (by simp only [AW6, simprocAttr, hX]; rfl) (by simp only [AW6, simprocAttr, hX]) (hfin _ _ rfl rfl ?_)
    rw [e1, e2]
    exact ⟨rfl, rfl⟩
  intro h
  have hf : isF c = true := by revert h; cases h1 : isF c <;> simp
  have hlE := lonE_on hf
  rw [hf] at h
  rw [hlE]
  rw [hlE] at h
  have h4 : (lonL c).length ≤ 15 := by
    by_cases h4 : (lonL c).length ≤ 15
    · exact h4
    · rw [decide_eq_true (by omega : ((lonL c).length : Int) > 15)] at h; simp at h
  rw [decide_eq_false (by omega : ¬ ((lonL c).length : Int) > 15)] at h
  have hu : wordB c u = true := by revert h; cases h1 : wordB c u <;> simp
  have hv : wordB c v = true := by revert h; cases h1 : wordB c v <;> simp [hu]
  have hF := isF_iff.1 hf
  obtain ⟨hc, u2, u3⟩ := wordB_iff.1 hu
  obtain ⟨_, v2, v3⟩ := wordB_iff.1 hv
  obtain ⟨l1, l2⟩ := lon_spec hF
  have hp : jnP c u v = true := by simp [jnP, hf, hu, hv, h4]
  have eB := jnB_on hp
  have ul := letters_append.2 ⟨u3, l2⟩
  have vl := letters_append.2 ⟨v3, l2⟩
  have ur := (red_spec hc ul (by simp; omega)).2.1
  have vr := (red_spec hc vl (by simp; omega)).2.1
  simp at ur vr
  refine Run.nq ?_; refine Run.regionW hC (fun K hK => ?_); simp only [AW6, simprocAttr, hX]; (repeat (with_reducible refine And.intro ?_ ?_); exact vc0)
  refine FunA.callW hP hT (c_spec_ConcatWords u (lonL c) (by omega) (by omega)) (by simp only [AW6, simprocAttr]) ?_
  rintro rs o ⟨rfl, rfl⟩
  (try simp only [AW6, simprocAttr, hX]); (repeat (with_reducible refine And.intro ?_ ?_); exact vc0)
  refine FunA.callW hP hT (c_spec_l8Normal c (u ++ lonL c) hc ul (by simp; omega)) (by simp only [AW6, simprocAttr]) ?_
  rintro rs o ⟨rfl, rfl⟩
  (try simp only [AW6, simprocAttr, hX]); (repeat (with_reducible refine And.intro ?_ ?_); exact vc0)
  refine FunA.callW hP hT (c_spec_ConcatWords v (lonL c) (by omega) (by omega)) (by simp only [AW6, simprocAttr]) ?_
  rintro rs o ⟨rfl, rfl⟩
  (try simp only [AW6, simprocAttr, hX]); (repeat (with_reducible refine And.intro ?_ ?_); exact vc0)
  refine FunA.callW hP hT (c_spec_l8Normal c (v ++ lonL c) hc vl (by simp; omega)) (by simp only [AW6, simprocAttr]) ?_
  rintro rs o ⟨rfl, rfl⟩
  (try simp only [AW6, simprocAttr, hX]); (repeat (with_reducible refine And.intro ?_ ?_); exact vc0)
  refine FunA.callW hP hT (c_spec_MeetWeak c (jnU c u) (jnU c v) hcl) (by simp only [AW6, simprocAttr]; exact ⟨rfl, rfl⟩) ?_
  rintro rs o ⟨rfl, rfl⟩
  (try simp only [AW6, simprocAttr, hX]); (repeat (with_reducible refine And.intro ?_ ?_); exact vc0)
  (repeat (with_reducible refine And.intro ?_ ?_); exact vc0); refine hK _ ?_; clear hK K; refine Run.nq ?_
  obtain ⟨m1, m2⟩ := mtX_word (c := c) (u := jnU c u) (v := jnU c v)
  generalize hgm : mtX c (jnU c u) (jnU c v) = m at *
  refine Run.nq ?_; refine Run.regionW hC (fun K hK => ?_); simp only [AW6, simprocAttr, hX]; (repeat (with_reducible refine And.intro ?_ ?_); exact vc0); refine hK _ ?_; clear hK K; refine Run.nq ?_
  refine Run.nq ?_; refine Run.condW (by simp only [AW6, simprocAttr, hX]; rfl) (by simp only [AW6, simprocAttr, hX]) ?_ ?_
  · intro h5
    have h5 : mtB c (jnU c u) (jnU c v) = false := by simpa using h5
    have e2 : jnX c u v = [] := by simp [jnX, eB, h5]
    refine Run.nq ?_; refine Run.regionW hC (fun K hK => ?_); simp only [AW6, simprocAttr, hX]; (repeat (with_reducible refine And.intro ?_ ?_); exact vc0); refine hK _ ?_; clear hK K; refine Run.nq ?_
    refine Run.reK hpin [6, 7] [6] (by decide) (by simp) ?_; simp only [AR, AW6, simprocAttr]
    refine Run.retW [6, 7] (by decide) (by rw [hfn]; rfl) (by simp only [AW6, simprocAttr, hX]; rfl) (by simp only [AW6, simprocAttr, hX]) (hfin _ _ rfl rfl ?_)
    rw [eB, e2, h5]
    exact ⟨rfl, rfl⟩
  intro h5
  have h5 : mtB c (jnU c u) (jnU c v) = true := by simpa using h5
  have e2 : jnX c u v = redL c (m ++ lonL c) := by simp [jnX, eB, h5, hgm]
  have ml := letters_append.2 ⟨m2 h5, l2⟩
  refine Run.nq ?_; refine Run.regionW hC (fun K hK => ?_); simp only [AW6, simprocAttr, hX]; (repeat (with_reducible refine And.intro ?_ ?_); exact vc0)
  refine FunA.callW hP hT (c_spec_ConcatWords m (lonL c) (by omega) (by omega)) (by simp only [AW6, simprocAttr]) ?_
  rintro rs o ⟨rfl, rfl⟩
  (try simp only [AW6, simprocAttr, hX]); (repeat (with_reducible refine And.intro ?_ ?_); exact vc0)
  refine FunA.callW hP hT (c_spec_l8Normal c (m ++ lonL c) hc ml (by simp; omega)) (by simp only [AW6, simprocAttr]) ?_
  rintro rs o ⟨rfl, rfl⟩
  (try simp only [AW6, simprocAttr, hX]); (repeat (with_reducible refine And.intro ?_ ?_); exact vc0)
  (repeat (with_reducible refine And.intro ?_ ?_); exact vc0); refine hK _ ?_; clear hK K; refine Run.nq ?_
  refine Run.reK hpin [6, 7] [7] (by decide) (by simp) ?_; simp only [AR, AW6, simprocAttr]
  refine Run.retW [6, 7] (by decide) (by rw [hfn]; rfl) (by simp only [AW6, simprocAttr, hX]; rfl) (by simp only [AW6, simprocAttr, hX]) (hfin _ _ rfl rfl ?_)
  rw [eB, e2, h5]
  exact ⟨rfl, rfl⟩
end Go.Proofs.Ytdhfonblpbpmmaa

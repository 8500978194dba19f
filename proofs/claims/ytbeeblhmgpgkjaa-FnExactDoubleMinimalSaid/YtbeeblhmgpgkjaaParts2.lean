/- Parts at the end of an element; the least element of a double coset. -/
import Derived.Test.YtbeeblhmgpgkjaaParts
set_option linter.unusedVariables false
set_option linter.unusedSimpArgs false
namespace Go.Proofs.Ytbeeblhmgpgkjaa
open Go Go.Aw Go.Cox

/-- What is left when letters of a set are taken off the front, off the end. -/
noncomputable def Lf (c : List (List Int)) (s y : List Int) : List Int := nfL c 31 (lpL c s 31 (imageL c y)).2
noncomputable def Rf (c : List (List Int)) (s y : List Int) : List Int := redL c (Lf c s y.reverse).reverse
noncomputable def Ra (c : List (List Int)) (s y : List Int) : List Int := redL c (redL c (lpL c s 31 (imageL c y.reverse)).1).reverse

section
variable {c : List (List Int)} (hc : CartanP c) {s y : List Int} (hs : setP c.length s) (hy : letters c.length y) (hl : y.length ≤ 31)
include hc hs hy hl
theorem Lf_spec : Red c (Lf c s y) ∧ (Lf c s y).length ≤ y.length := by
  obtain ⟨k1, k2, k3, k4⟩ := lp_word hc hs hy hl
  exact ⟨k3, by unfold Lf; omega⟩
theorem Lf_nf : redL c (Lf c s y) = Lf c s y := by
  obtain ⟨k1, k2, k3, k4⟩ := lp_word hc hs hy hl
  show nfL c 31 (imageL c (nfL c 31 _)) = _
  rw [k4]; rfl
theorem Lf_idem : Lf c s (Lf c s y) = Lf c s y := by
  obtain ⟨L, h1, h2, h3⟩ := Far.image hc hy
  obtain ⟨k1, k2, M, k3, k4, k5⟩ := lpL_far hc (set_letters hs) 31 L h3 (by omega)
  obtain ⟨m1, m2, m3⟩ := nfL_far hc 31 M k4 (by omega)
  show nfL c 31 (lpL c s 31 (imageL c (nfL c 31 (lpL c s 31 (imageL c y)).2))).2 = _
  rw [m3, lp_stop k2]; rfl
theorem Lf_eq (h : (Lf c s y).length = y.length) : Lf c s y = redL c y := by
  obtain ⟨L, h1, h2, h3⟩ := Far.image hc hy
  obtain ⟨k1, k2, M, k3, k4, k5⟩ := lpL_far hc (set_letters hs) 31 L h3 (by omega)
  obtain ⟨m1, m2, m3⟩ := nfL_far hc 31 M k4 (by omega)
  have e : (Lf c s y).length = M := m1
  have : (lpL c s 31 (imageL c y)).1 = [] := List.eq_nil_of_length_eq_zero (by omega)
  rw [this] at k5
  show nfL c 31 (lpL c s 31 (imageL c y)).2 = nfL c 31 (imageL c y)
  exact congrArg (nfL c 31) k5
theorem Rf_spec : Red c (Rf c s y) ∧ (Rf c s y).length ≤ y.length ∧ redL c (Rf c s y) = Rf c s y := by
  obtain ⟨k1, k2⟩ := Lf_spec hc hs (letters_reverse hy) (by simpa using hl)
  simp at k2
  obtain ⟨m1, m2, m3, m4, m5⟩ := red_spec hc (letters_reverse k1.1) (by simp; omega)
  simp at m2
  refine ⟨red_Red hc (letters_reverse k1.1) (by simp; omega), by unfold Rf; omega, ?_⟩
  exact red_eq m4
theorem Rf_eq (h : (Rf c s y).length = y.length) : Rf c s y = redL c y := by
  obtain ⟨k1, k2⟩ := Lf_spec hc hs (letters_reverse hy) (by simpa using hl)
  simp at k2
  obtain ⟨m1, m2, m3, m4, m5⟩ := red_spec hc (letters_reverse k1.1) (by simp; omega)
  simp at m2
  have h1 : (redL c (Lf c s y.reverse).reverse).length = y.length := h
  have e := Lf_eq hc hs (letters_reverse hy) (by simpa using hl) (by simp; omega)
  unfold Rf
  rw [e]
  obtain ⟨r1, r2, r3, r4, r5⟩ := red_spec hc (letters_reverse hy) (by simpa using hl)
  have := weak_same hc (v := []) (y := []) r1 (letters_reverse hy) r4 rfl
  simpa using this
end

theorem wordB_rev (c : List (List Int)) (w : List Int) : wordB c w.reverse = wordB c w := by
  rw [Bool.eq_iff_iff, wordB_iff, wordB_iff]
  unfold WordP
  constructor
  · rintro ⟨h1, h2, h3⟩; exact ⟨h1, by simpa using h2, by simpa using letters_reverse h3⟩
  · rintro ⟨h1, h2, h3⟩; exact ⟨h1, by simpa using h2, letters_reverse h3⟩
theorem leftB_rev (c : List (List Int)) (s w : List Int) : leftB c s w.reverse = leftB c s w := by unfold leftB; rw [wordB_rev]
theorem leftB_iff {c : List (List Int)} {s w : List Int} : leftB c s w = true ↔ WordP c w ∧ setP c.length s := by
  unfold leftB isSetB
  simp only [Bool.and_eq_true, wordB_iff, setB_iff, isC_iff]
  constructor
  · rintro ⟨h1, _, h3⟩; exact ⟨h1, h3⟩
  · rintro ⟨h1, h3⟩; exact ⟨h1, h1.1, h3⟩

noncomputable def rightX (c : List (List Int)) (s w : List Int) : List Int := if leftB c s w then Rf c s w else []
noncomputable def rightY (c : List (List Int)) (s w : List Int) : List Int := if leftB c s w then Ra c s w else []
theorem rightX_le (c : List (List Int)) (s w : List Int) : (rightX c s w).length ≤ 15 := by
  unfold rightX
  split
  · rename_i h
    obtain ⟨⟨hc, h2, h3⟩, hs⟩ := leftB_iff.1 h
    have := (Rf_spec hc hs h3 (by omega)).2.1
    omega
  · simp
theorem Ra_spec {c : List (List Int)} (hc : CartanP c) {s y : List Int} (hs : setP c.length s) (hy : letters c.length y) (hl : y.length ≤ 31) :
    letters c.length (redL c (lpL c s 31 (imageL c y.reverse)).1) ∧ (redL c (lpL c s 31 (imageL c y.reverse)).1).length ≤ y.length ∧ (Ra c s y).length ≤ y.length := by
  obtain ⟨k1, k2, k3, k4⟩ := lp_word hc hs (letters_reverse hy) (by simpa using hl)
  simp at k2
  obtain ⟨m1, m2, _⟩ := red_spec hc k1 (by omega)
  obtain ⟨n1, n2, _⟩ := red_spec hc (letters_reverse m1) (by simp; omega)
  simp at n2
  exact ⟨m1, by omega, by unfold Ra; omega⟩
theorem rightY_le (c : List (List Int)) (s w : List Int) : (rightY c s w).length ≤ 15 := by
  unfold rightY
  split
  · rename_i h
    obtain ⟨⟨hc, h2, h3⟩, hs⟩ := leftB_iff.1 h
    have := (Ra_spec hc hs h3 (by omega)).2.2
    omega
  · simp

theorem c_impl_rightParts (c : List (List Int)) (s w : List Int) (hc : CartanP c) (hs : setP c.length s) (hw : letters c.length w) (hl : w.length ≤ 31) :
    FunA B 74 [.sl false (.row false) c, .sl false .int s, .sl false .int w] (fun rs o => rs = [.own 0 0, .own 1 0] ∧ o = [.arr .int (Rf c s w) 0 true, .arr .int (Ra c s w) 0 true]) := by
  obtain ⟨k1, k2⟩ := Lf_spec hc hs (letters_reverse hw) (by simpa using hl)
  simp at k2
  obtain ⟨n1, n2, n3⟩ := Ra_spec hc hs hw hl
  refine FunA.walk B_ok (fn := Try.f74) (fun vs w => Try.call74 vs w) Try.func74 rfl (by rw [Try.ntmps74]; simp) (fun C hC hP hT hΓ hbt hfn hpin hfin => ?_); have hX := BX; rw [← hΓ, ← hbt] at hX; rw [Try.ntmps74]; simp only [AW1, simprocAttr, Int.toNat_natCast, beq_self_eq_true, hX]
  (repeat (first | refine Run.seq ?_ | refine Run.skip ?_ | refine Run.label ?_ | refine Run.block ?_ | refine Run.unblock ?_)); refine Run.regionW hC (fun K hK => ?_); simp only [AW1, simprocAttr, Int.toNat_natCast, beq_self_eq_true, hX]; (repeat (with_reducible refine And.intro ?_ ?_); focus (first | omega | (intros; simp_all; done) | (intro h; simp only [VB] at h; omega) | (intros; simp_all; omega))); refine hK _ ?_; clear hK K; (repeat (first | refine Run.seq ?_ | refine Run.skip ?_ | refine Run.label ?_ | refine Run.block ?_ | refine Run.unblock ?_))
  (repeat (first | refine Run.seq ?_ | refine Run.skip ?_ | refine Run.label ?_ | refine Run.block ?_ | refine Run.unblock ?_)); refine Run.regionW hC (fun K hK => ?_); simp only [AW1, simprocAttr, Int.toNat_natCast, beq_self_eq_true, hX]; (repeat (with_reducible refine And.intro ?_ ?_); focus (first | omega | (intros; simp_all; done) | (intro h; simp only [VB] at h; omega) | (intros; simp_all; omega)))
  refine FunA.callW hP hT (c_impl_ReverseWord w (by omega)) (by simp only [AW1, simprocAttr, Int.toNat_natCast, beq_self_eq_true]) ?_
  rintro rs o ⟨rfl, rfl⟩
  (try simp only [AW1, simprocAttr, Int.toNat_natCast, beq_self_eq_true, hX]); (repeat (with_reducible refine And.intro ?_ ?_); focus (first | omega | (intros; simp_all; done) | (intro h; simp only [VB] at h; omega) | (intros; simp_all; omega)))
  refine FunA.callW hP hT (c_impl_leftParts c s w.reverse hc hs (letters_reverse hw) (by simpa using hl)) (by simp only [AW1, simprocAttr, Int.toNat_natCast, beq_self_eq_true]) ?_
  rintro rs o ⟨rfl, rfl⟩
  (try simp only [AW1, simprocAttr, Int.toNat_natCast, beq_self_eq_true, hX]); (repeat (with_reducible refine And.intro ?_ ?_); focus (first | omega | (intros; simp_all; done) | (intro h; simp only [VB] at h; omega) | (intros; simp_all; omega)))
  (repeat (with_reducible refine And.intro ?_ ?_); focus (first | omega | (intros; simp_all; done) | (intro h; simp only [VB] at h; omega) | (intros; simp_all; omega))); refine hK _ ?_; clear hK K; (repeat (first | refine Run.seq ?_ | refine Run.skip ?_ | refine Run.label ?_ | refine Run.block ?_ | refine Run.unblock ?_))
  rw [show nfL c 31 (lpL c s 31 (imageL c w.reverse)).2 = Lf c s w.reverse from rfl]
  (repeat (first | refine Run.seq ?_ | refine Run.skip ?_ | refine Run.label ?_ | refine Run.block ?_ | refine Run.unblock ?_)); refine Run.regionW hC (fun K hK => ?_); simp only [AW1, simprocAttr, Int.toNat_natCast, beq_self_eq_true, hX]; (repeat (with_reducible refine And.intro ?_ ?_); focus (first | omega | (intros; simp_all; done) | (intro h; simp only [VB] at h; omega) | (intros; simp_all; omega)))
  refine FunA.callW hP hT (c_impl_ReverseWord (Lf c s w.reverse) (by omega)) (by simp only [AW1, simprocAttr, Int.toNat_natCast, beq_self_eq_true]) ?_
  rintro rs o ⟨rfl, rfl⟩
  (try simp only [AW1, simprocAttr, Int.toNat_natCast, beq_self_eq_true, hX]); (repeat (with_reducible refine And.intro ?_ ?_); focus (first | omega | (intros; simp_all; done) | (intro h; simp only [VB] at h; omega) | (intros; simp_all; omega)))
  refine FunA.callW hP hT (c_impl_reduced c (Lf c s w.reverse).reverse hc (letters_reverse k1.1) (by simp; omega)) (by simp only [AW1, simprocAttr, Int.toNat_natCast, beq_self_eq_true]) ?_
  rintro rs o ⟨rfl, rfl⟩
  (try simp only [AW1, simprocAttr, Int.toNat_natCast, beq_self_eq_true, hX]); (repeat (with_reducible refine And.intro ?_ ?_); focus (first | omega | (intros; simp_all; done) | (intro h; simp only [VB] at h; omega) | (intros; simp_all; omega)))
  refine FunA.callW hP hT (c_impl_ReverseWord (redL c (lpL c s 31 (imageL c w.reverse)).1) (by omega)) (by simp only [AW1, simprocAttr, Int.toNat_natCast, beq_self_eq_true]) ?_
  rintro rs o ⟨rfl, rfl⟩
  (try simp only [AW1, simprocAttr, Int.toNat_natCast, beq_self_eq_true, hX]); (repeat (with_reducible refine And.intro ?_ ?_); focus (first | omega | (intros; simp_all; done) | (intro h; simp only [VB] at h; omega) | (intros; simp_all; omega)))
  refine FunA.callW hP hT (c_impl_reduced c (redL c (lpL c s 31 (imageL c w.reverse)).1).reverse hc (letters_reverse n1) (by simp; omega)) (by simp only [AW1, simprocAttr, Int.toNat_natCast, beq_self_eq_true]) ?_
  rintro rs o ⟨rfl, rfl⟩
  (try simp only [AW1, simprocAttr, Int.toNat_natCast, beq_self_eq_true, hX]); (repeat (with_reducible refine And.intro ?_ ?_); focus (first | omega | (intros; simp_all; done) | (intro h; simp only [VB] at h; omega) | (intros; simp_all; omega)))
  (repeat (with_reducible refine And.intro ?_ ?_); focus (first | omega | (intros; simp_all; done) | (intro h; simp only [VB] at h; omega) | (intros; simp_all; omega))); refine hK _ ?_; clear hK K; (repeat (first | refine Run.seq ?_ | refine Run.skip ?_ | refine Run.label ?_ | refine Run.block ?_ | refine Run.unblock ?_))
  refine Run.le (Le.re (obs' := [.arr .int (Rf c s w) 0 true, .arr .int (Ra c s w) 0 true]) hpin [4, 6] [(6, true, .own 0 0), (7, true, .own 1 0)] rfl (by simp [leOs, leO_arr, oAt, Rf, Ra]) (by refine ⟨⟨_, rfl, ?_⟩, ⟨_, rfl, ?_⟩, trivial⟩ <;> simp [leAV, oAt, genO, Rf, Ra])) ?_; simp only [frV_cons, frV_nil]
  refine Run.retW [6, 7] (by decide) (by rw [hfn]; rfl) (by simp only [AW1, simprocAttr, Int.toNat_natCast, beq_self_eq_true, hX]; rfl) (by simp only [AW1, simprocAttr, Int.toNat_natCast, beq_self_eq_true, hX]) (hfin _ _ rfl rfl ?_)
  exact ⟨rfl, rfl⟩

theorem c_impl_RightParts (c : List (List Int)) (s w : List Int) (hcl : c.length ≤ 1048576) (_ : w.length ≤ 1048576) :
    FunA B 42 [.sl false (.row false) c, .sl false .int s, .sl false .int w] (fun rs o => rs = [.own 0 0, .own 1 0, .bool (leftB c s w)] ∧ o = [.arr .int (rightX c s w) 0 true, .arr .int (rightY c s w) 0 true]) := by
  refine FunA.walk B_ok (fn := Try.f42) (fun vs w => Try.call42 vs w) Try.func42 rfl (by rw [Try.ntmps42]; simp) (fun C hC hP hT hΓ hbt hfn hpin hfin => ?_); have hX := BX; rw [← hΓ, ← hbt] at hX; rw [Try.ntmps42]; simp only [AW1, simprocAttr, Int.toNat_natCast, beq_self_eq_true, hX]
  (repeat (first | refine Run.seq ?_ | refine Run.skip ?_ | refine Run.label ?_ | refine Run.block ?_ | refine Run.unblock ?_)); refine Run.regionW hC (fun K hK => ?_); simp only [AW1, simprocAttr, Int.toNat_natCast, beq_self_eq_true, hX]; (repeat (with_reducible refine And.intro ?_ ?_); focus (first | omega | (intros; simp_all; done) | (intro h; simp only [VB] at h; omega) | (intros; simp_all; omega))); refine hK _ ?_; clear hK K; (repeat (first | refine Run.seq ?_ | refine Run.skip ?_ | refine Run.label ?_ | refine Run.block ?_ | refine Run.unblock ?_))
  (repeat (first | refine Run.seq ?_ | refine Run.skip ?_ | refine Run.label ?_ | refine Run.block ?_ | refine Run.unblock ?_)); refine Run.regionW hC (fun K hK => ?_); simp only [AW1, simprocAttr, Int.toNat_natCast, beq_self_eq_true, hX]; (repeat (with_reducible refine And.intro ?_ ?_); focus (first | omega | (intros; simp_all; done) | (intro h; simp only [VB] at h; omega) | (intros; simp_all; omega)))
  refine FunA.callW hP hT (c_impl_IsWord c w) (by simp only [AW1, simprocAttr, Int.toNat_natCast, beq_self_eq_true]) ?_
  rintro rs o ⟨rfl, rfl⟩
  (try simp only [AW1, simprocAttr, Int.toNat_natCast, beq_self_eq_true, hX]); (repeat (with_reducible refine And.intro ?_ ?_); focus (first | omega | (intros; simp_all; done) | (intro h; simp only [VB] at h; omega) | (intros; simp_all; omega)))
  refine .inl (FunA.callG hP hT (c_impl_IsSet c s hcl) (fun _ => rfl) (fun _ => by simp only [AW1, simprocAttr, Int.toNat_natCast, beq_self_eq_true]) ?_)
  (try simp only [AW1, simprocAttr, Int.toNat_natCast, beq_self_eq_true, hX]); (repeat (with_reducible refine And.intro ?_ ?_); focus (first | omega | (intros; simp_all; done) | (intro h; simp only [VB] at h; omega) | (intros; simp_all; omega)))
  (repeat (with_reducible refine And.intro ?_ ?_); focus (first | omega | (intros; simp_all; done) | (intro h; simp only [VB] at h; omega) | (intros; simp_all; omega))); refine hK _ ?_; clear hK K; (repeat (first | refine Run.seq ?_ | refine Run.skip ?_ | refine Run.label ?_ | refine Run.block ?_ | refine Run.unblock ?_))
  (repeat (first | refine Run.seq ?_ | refine Run.skip ?_ | refine Run.label ?_ | refine Run.block ?_ | refine Run.unblock ?_)); refine Run.condW (by simp only [AW1, simprocAttr, Int.toNat_natCast, beq_self_eq_true, hX]; rfl) (by simp only [AW1, simprocAttr, Int.toNat_natCast, beq_self_eq_true, hX]) ?_ ?_
  · intro h
    have h : leftB c s w = false := by
      revert h
      cases hw : wordB c w <;> cases hi : isSetB c s <;> simp [leftB, hw, hi]
    (repeat (first | refine Run.seq ?_ | refine Run.skip ?_ | refine Run.label ?_ | refine Run.block ?_ | refine Run.unblock ?_)); refine Run.regionW hC (fun K hK => ?_); simp only [AW1, simprocAttr, Int.toNat_natCast, beq_self_eq_true, hX]; (repeat (with_reducible refine And.intro ?_ ?_); focus (first | omega | (intros; simp_all; done) | (intro h; simp only [VB] at h; omega) | (intros; simp_all; omega))); refine hK _ ?_; clear hK K; (repeat (first | refine Run.seq ?_ | refine Run.skip ?_ | refine Run.label ?_ | refine Run.block ?_ | refine Run.unblock ?_))
    refine Run.retW [6, 7, 8] (by decide) (by rw [hfn]; rfl) (by simp only [AW1, simprocAttr, Int.toNat_natCast, beq_self_eq_true, hX]; rfl) (by simp only [AW1, simprocAttr, Int.toNat_natCast, beq_self_eq_true, hX]) (hfin _ _ rfl rfl ?_)
    simp [rightX, rightY, h]
  · intro h
    have hb : leftB c s w = true := by
      revert h
      cases hw : wordB c w <;> cases hi : isSetB c s <;> simp [leftB, hw, hi]
    obtain ⟨⟨hc, h2, h3⟩, hs⟩ := leftB_iff.1 hb
    (repeat (first | refine Run.seq ?_ | refine Run.skip ?_ | refine Run.label ?_ | refine Run.block ?_ | refine Run.unblock ?_)); refine Run.regionW hC (fun K hK => ?_); simp only [AW1, simprocAttr, Int.toNat_natCast, beq_self_eq_true, hX]; (repeat (with_reducible refine And.intro ?_ ?_); focus (first | omega | (intros; simp_all; done) | (intro h; simp only [VB] at h; omega) | (intros; simp_all; omega)))
    refine FunA.callW hP hT (c_impl_rightParts c s w hc hs h3 (by omega)) (by simp only [AW1, simprocAttr, Int.toNat_natCast, beq_self_eq_true]) ?_
    rintro rs o ⟨rfl, rfl⟩
    (try simp only [AW1, simprocAttr, Int.toNat_natCast, beq_self_eq_true, hX]); (repeat (with_reducible refine And.intro ?_ ?_); focus (first | omega | (intros; simp_all; done) | (intro h; simp only [VB] at h; omega) | (intros; simp_all; omega)))
    (repeat (with_reducible refine And.intro ?_ ?_); focus (first | omega | (intros; simp_all; done) | (intro h; simp only [VB] at h; omega) | (intros; simp_all; omega))); refine hK _ ?_; clear hK K; (repeat (first | refine Run.seq ?_ | refine Run.skip ?_ | refine Run.label ?_ | refine Run.block ?_ | refine Run.unblock ?_))
    (repeat (first | refine Run.seq ?_ | refine Run.skip ?_ | refine Run.label ?_ | refine Run.block ?_ | refine Run.unblock ?_)); refine Run.regionW hC (fun K hK => ?_); simp only [AW1, simprocAttr, Int.toNat_natCast, beq_self_eq_true, hX]; (repeat (with_reducible refine And.intro ?_ ?_); focus (first | omega | (intros; simp_all; done) | (intro h; simp only [VB] at h; omega) | (intros; simp_all; omega))); refine hK _ ?_; clear hK K; (repeat (first | refine Run.seq ?_ | refine Run.skip ?_ | refine Run.label ?_ | refine Run.block ?_ | refine Run.unblock ?_))
    refine Run.retW [6, 7, 8] (by decide) (by rw [hfn]; rfl) (by simp only [AW1, simprocAttr, Int.toNat_natCast, beq_self_eq_true, hX]; rfl) (by simp only [AW1, simprocAttr, Int.toNat_natCast, beq_self_eq_true, hX]) (hfin _ _ rfl rfl ?_)
    simp [rightX, rightY, hb]

theorem c_spec_RightParts (c : List (List Int)) (s w : List Int) (hcl : c.length ≤ 1048576) (hwl : w.length ≤ 1048576) :
    FunA B 41 [.sl false (.row false) c, .sl false .int s, .sl false .int w] (fun rs o => rs = [.own 0 0, .own 1 0, .bool (leftB c s w)] ∧ o = [.arr .int (rightX c s w) 0 true, .arr .int (rightY c s w) 0 true]) := by
  refine FunA.walk B_ok (fn := Try.f41) (fun vs w => Try.call41 vs w) Try.func41 rfl (by rw [Try.ntmps41]; simp) (fun C hC hP hT hΓ hbt hfn hpin hfin => ?_); have hX := BX; rw [← hΓ, ← hbt] at hX; rw [Try.ntmps41]; simp only [AW1, simprocAttr, Int.toNat_natCast, beq_self_eq_true, hX]
  (repeat (first | refine Run.seq ?_ | refine Run.skip ?_ | refine Run.label ?_ | refine Run.block ?_ | refine Run.unblock ?_)); refine Run.regionW hC (fun K hK => ?_); simp only [AW1, simprocAttr, Int.toNat_natCast, beq_self_eq_true, hX]; (repeat (with_reducible refine And.intro ?_ ?_); focus (first | omega | (intros; simp_all; done) | (intro h; simp only [VB] at h; omega) | (intros; simp_all; omega))); refine hK _ ?_; clear hK K; (repeat (first | refine Run.seq ?_ | refine Run.skip ?_ | refine Run.label ?_ | refine Run.block ?_ | refine Run.unblock ?_))
  (repeat (first | refine Run.seq ?_ | refine Run.skip ?_ | refine Run.label ?_ | refine Run.block ?_ | refine Run.unblock ?_)); refine Run.regionW hC (fun K hK => ?_); simp only [AW1, simprocAttr, Int.toNat_natCast, beq_self_eq_true, hX]; (repeat (with_reducible refine And.intro ?_ ?_); focus (first | omega | (intros; simp_all; done) | (intro h; simp only [VB] at h; omega) | (intros; simp_all; omega)))
  refine FunA.callW hP hT (c_spec_ReverseWord w hwl) (by simp only [AW1, simprocAttr, Int.toNat_natCast, beq_self_eq_true]) ?_
  rintro rs o ⟨rfl, rfl⟩
  (try simp only [AW1, simprocAttr, Int.toNat_natCast, beq_self_eq_true, hX]); (repeat (with_reducible refine And.intro ?_ ?_); focus (first | omega | (intros; simp_all; done) | (intro h; simp only [VB] at h; omega) | (intros; simp_all; omega)))
  refine FunA.callW hP hT (c_spec_LeftParts c s w.reverse hcl) (by simp only [AW1, simprocAttr, Int.toNat_natCast, beq_self_eq_true]) ?_
  rintro rs o ⟨rfl, rfl⟩
  rw [leftB_rev]
  (try simp only [AW1, simprocAttr, Int.toNat_natCast, beq_self_eq_true, hX]); (repeat (with_reducible refine And.intro ?_ ?_); focus (first | omega | (intros; simp_all; done) | (intro h; simp only [VB] at h; omega) | (intros; simp_all; omega)))
  (repeat (with_reducible refine And.intro ?_ ?_); focus (first | omega | (intros; simp_all; done) | (intro h; simp only [VB] at h; omega) | (intros; simp_all; omega))); refine hK _ ?_; clear hK K; (repeat (first | refine Run.seq ?_ | refine Run.skip ?_ | refine Run.label ?_ | refine Run.block ?_ | refine Run.unblock ?_))
  (repeat (first | refine Run.seq ?_ | refine Run.skip ?_ | refine Run.label ?_ | refine Run.block ?_ | refine Run.unblock ?_)); refine Run.regionW hC (fun K hK => ?_); simp only [AW1, simprocAttr, Int.toNat_natCast, beq_self_eq_true, hX]; (repeat (with_reducible refine And.intro ?_ ?_); focus (first | omega | (intros; simp_all; done) | (intro h; simp only [VB] at h; omega) | (intros; simp_all; omega))); refine hK _ ?_; clear hK K; (repeat (first | refine Run.seq ?_ | refine Run.skip ?_ | refine Run.label ?_ | refine Run.block ?_ | refine Run.unblock ?_))
  (repeat (first | refine Run.seq ?_ | refine Run.skip ?_ | refine Run.label ?_ | refine Run.block ?_ | refine Run.unblock ?_)); refine Run.condW (by simp only [AW1, simprocAttr, Int.toNat_natCast, beq_self_eq_true, hX]; rfl) (by simp only [AW1, simprocAttr, Int.toNat_natCast, beq_self_eq_true, hX]) ?_ ?_
  · intro h
    have h : leftB c s w = false := by simpa using h
    (repeat (first | refine Run.seq ?_ | refine Run.skip ?_ | refine Run.label ?_ | refine Run.block ?_ | refine Run.unblock ?_)); refine Run.regionW hC (fun K hK => ?_); simp only [AW1, simprocAttr, Int.toNat_natCast, beq_self_eq_true, hX]; (repeat (with_reducible refine And.intro ?_ ?_); focus (first | omega | (intros; simp_all; done) | (intro h; simp only [VB] at h; omega) | (intros; simp_all; omega))); refine hK _ ?_; clear hK K; (repeat (first | refine Run.seq ?_ | refine Run.skip ?_ | refine Run.label ?_ | refine Run.block ?_ | refine Run.unblock ?_))
    refine Run.le (Le.re (obs' := [.arr .int [] 0 true, .arr .int [] 0 true]) hpin [3, 4] [(6, true, .own 0 0), (7, true, .own 1 0), (8, true, .bool false)] rfl (by simp [leOs, leO_arr, oAt]) (by refine ⟨⟨_, rfl, ?_⟩, ⟨_, rfl, ?_⟩, ⟨_, rfl, ?_⟩, trivial⟩ <;> simp [leAV, oAt, genO])) ?_; simp only [frV_cons, frV_nil]
    refine Run.retW [6, 7, 8] (by decide) (by rw [hfn]; rfl) (by simp only [AW1, simprocAttr, Int.toNat_natCast, beq_self_eq_true, hX]; rfl) (by simp only [AW1, simprocAttr, Int.toNat_natCast, beq_self_eq_true, hX]) (hfin _ _ rfl rfl ?_)
    simp [rightX, rightY, h]
  · intro h
    have hb : leftB c s w = true := by simpa using h
    obtain ⟨⟨hc, h2, h3⟩, hs⟩ := leftB_iff.1 hb
    obtain ⟨k1, k2⟩ := Lf_spec hc hs (letters_reverse h3) (by simp; omega)
    simp at k2
    obtain ⟨n1, n2, n3⟩ := Ra_spec hc hs h3 (by omega)
    have eX : leftX c s w.reverse = redL c (lpL c s 31 (imageL c w.reverse)).1 := by unfold leftX; rw [leftB_rev, if_pos hb]
    have eY : leftY c s w.reverse = Lf c s w.reverse := by unfold leftY; rw [leftB_rev, if_pos hb]; rfl
    rw [eX, eY]
    (repeat (first | refine Run.seq ?_ | refine Run.skip ?_ | refine Run.label ?_ | refine Run.block ?_ | refine Run.unblock ?_)); refine Run.regionW hC (fun K hK => ?_); simp only [AW1, simprocAttr, Int.toNat_natCast, beq_self_eq_true, hX]; (repeat (with_reducible refine And.intro ?_ ?_); focus (first | omega | (intros; simp_all; done) | (intro h; simp only [VB] at h; omega) | (intros; simp_all; omega)))
    refine FunA.callW hP hT (c_spec_ReverseWord (Lf c s w.reverse) (by omega)) (by simp only [AW1, simprocAttr, Int.toNat_natCast, beq_self_eq_true]) ?_
    rintro rs o ⟨rfl, rfl⟩
    (try simp only [AW1, simprocAttr, Int.toNat_natCast, beq_self_eq_true, hX]); (repeat (with_reducible refine And.intro ?_ ?_); focus (first | omega | (intros; simp_all; done) | (intro h; simp only [VB] at h; omega) | (intros; simp_all; omega)))
    refine FunA.callW hP hT (c_spec_l8Normal c (Lf c s w.reverse).reverse hc (letters_reverse k1.1) (by simp; omega)) (by simp only [AW1, simprocAttr, Int.toNat_natCast, beq_self_eq_true]) ?_
    rintro rs o ⟨rfl, rfl⟩
    (try simp only [AW1, simprocAttr, Int.toNat_natCast, beq_self_eq_true, hX]); (repeat (with_reducible refine And.intro ?_ ?_); focus (first | omega | (intros; simp_all; done) | (intro h; simp only [VB] at h; omega) | (intros; simp_all; omega)))
    refine FunA.callW hP hT (c_spec_ReverseWord (redL c (lpL c s 31 (imageL c w.reverse)).1) (by omega)) (by simp only [AW1, simprocAttr, Int.toNat_natCast, beq_self_eq_true]) ?_
    rintro rs o ⟨rfl, rfl⟩
    (try simp only [AW1, simprocAttr, Int.toNat_natCast, beq_self_eq_true, hX]); (repeat (with_reducible refine And.intro ?_ ?_); focus (first | omega | (intros; simp_all; done) | (intro h; simp only [VB] at h; omega) | (intros; simp_all; omega)))
    refine FunA.callW hP hT (c_spec_l8Normal c (redL c (lpL c s 31 (imageL c w.reverse)).1).reverse hc (letters_reverse n1) (by simp; omega)) (by simp only [AW1, simprocAttr, Int.toNat_natCast, beq_self_eq_true]) ?_
    rintro rs o ⟨rfl, rfl⟩
    (try simp only [AW1, simprocAttr, Int.toNat_natCast, beq_self_eq_true, hX]); (repeat (with_reducible refine And.intro ?_ ?_); focus (first | omega | (intros; simp_all; done) | (intro h; simp only [VB] at h; omega) | (intros; simp_all; omega)))
    (repeat (with_reducible refine And.intro ?_ ?_); focus (first | omega | (intros; simp_all; done) | (intro h; simp only [VB] at h; omega) | (intros; simp_all; omega))); refine hK _ ?_; clear hK K; (repeat (first | refine Run.seq ?_ | refine Run.skip ?_ | refine Run.label ?_ | refine Run.block ?_ | refine Run.unblock ?_))
    refine Run.le (Le.re (obs' := [.arr .int (rightX c s w) 0 true, .arr .int (rightY c s w) 0 true]) hpin [4, 6] [(6, true, .own 0 0), (7, true, .own 1 0), (8, true, .bool true)] rfl (by simp [leOs, leO_arr, oAt, rightX, rightY, hb, Rf, Ra]) (by refine ⟨⟨_, rfl, ?_⟩, ⟨_, rfl, ?_⟩, ⟨_, rfl, ?_⟩, trivial⟩ <;> simp [leAV, oAt, genO, rightX, rightY, hb, Rf, Ra])) ?_; simp only [frV_cons, frV_nil]
    refine Run.retW [6, 7, 8] (by decide) (by rw [hfn]; rfl) (by simp only [AW1, simprocAttr, Int.toNat_natCast, beq_self_eq_true, hX]; rfl) (by simp only [AW1, simprocAttr, Int.toNat_natCast, beq_self_eq_true, hX]) (hfin _ _ rfl rfl ?_)
    simp [hb]
end Go.Proofs.Ytbeeblhmgpgkjaa

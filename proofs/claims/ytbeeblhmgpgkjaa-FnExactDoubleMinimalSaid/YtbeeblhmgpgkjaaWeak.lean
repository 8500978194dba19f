/- The weak order on both sides. -/
import Derived.Test.YtbeeblhmgpgkjaaWords4
import Derived.Test.YtbeeblhmgpgkjaaGrow2
import Derived.Test.YtbeeblhmgpgkjaaSets
set_option linter.unusedVariables false
set_option linter.unusedSimpArgs false
namespace Go.Proofs.Ytbeeblhmgpgkjaa
open Go Go.Aw Go.Cox

open Classical in
noncomputable def wkB (c : List (List Int)) (u v : List Int) : Bool := wordB c u && wordB c v && decide ((redL c u).length + (redL c (u.reverse ++ v)).length = (redL c v).length)

theorem c_impl_weakBelow (c : List (List Int)) (u v : List Int) (hu : WordP c u) (hv : WordP c v) :
    FunA B 64 [.sl false (.row false) c, .sl false .int u, .sl false .int v] (fun rs o => rs = [.bool (wkB c u v)] ∧ o = []) := by
  obtain ⟨hc, h2, h3⟩ := hu
  obtain ⟨_, h5, h6⟩ := hv
  obtain ⟨a1, a2, _⟩ := red_spec hc h3 (by omega)
  obtain ⟨b1, b2, _⟩ := red_spec hc h6 (by omega)
  have hlw : letters c.length (u.reverse ++ v) := letters_append.2 ⟨letters_reverse h3, h6⟩
  obtain ⟨d1, d2, _⟩ := red_spec hc hlw (by simp; omega)
  simp at d2
  refine FunA.walk B_ok (fn := Try.f64) (fun vs w => Try.call64 vs w) Try.func64 rfl (by rw [Try.ntmps64]; simp) (fun C hC hP hT hΓ hbt hfn hpin hfin => ?_); have hX := BX; rw [← hΓ, ← hbt] at hX; rw [Try.ntmps64]; simp only [AW1, simprocAttr, Int.toNat_natCast, beq_self_eq_true, hX]
  (repeat (first | refine Run.seq ?_ | refine Run.skip ?_ | refine Run.label ?_ | refine Run.block ?_ | refine Run.unblock ?_)); refine Run.regionW hC (fun K hK => ?_); simp only [AW1, simprocAttr, Int.toNat_natCast, beq_self_eq_true, hX]; (repeat (with_reducible refine And.intro ?_ ?_); focus (first | omega | (intros; simp_all; done) | (intro h; simp only [VB] at h; omega) | (intros; simp_all; omega))); refine hK _ ?_; clear hK K; (repeat (first | refine Run.seq ?_ | refine Run.skip ?_ | refine Run.label ?_ | refine Run.block ?_ | refine Run.unblock ?_))
  (repeat (first | refine Run.seq ?_ | refine Run.skip ?_ | refine Run.label ?_ | refine Run.block ?_ | refine Run.unblock ?_)); refine Run.regionW hC (fun K hK => ?_); simp only [AW1, simprocAttr, Int.toNat_natCast, beq_self_eq_true, hX]; (repeat (with_reducible refine And.intro ?_ ?_); focus (first | omega | (intros; simp_all; done) | (intro h; simp only [VB] at h; omega) | (intros; simp_all; omega)))
  refine FunA.callW hP hT (c_impl_lengthOf c u hc h3 (by omega)) (by simp only [AW1, simprocAttr, Int.toNat_natCast, beq_self_eq_true]) ?_
  rintro rs o ⟨rfl, rfl⟩
  (try simp only [AW1, simprocAttr, Int.toNat_natCast, beq_self_eq_true, hX]); (repeat (with_reducible refine And.intro ?_ ?_); focus (first | omega | (intros; simp_all; done) | (intro h; simp only [VB] at h; omega) | (intros; simp_all; omega)))
  refine FunA.callW hP hT (c_impl_ReverseWord u (by omega)) (by simp only [AW1, simprocAttr, Int.toNat_natCast, beq_self_eq_true]) ?_
  rintro rs o ⟨rfl, rfl⟩
  (try simp only [AW1, simprocAttr, Int.toNat_natCast, beq_self_eq_true, hX]); (repeat (with_reducible refine And.intro ?_ ?_); focus (first | omega | (intros; simp_all; done) | (intro h; simp only [VB] at h; omega) | (intros; simp_all; omega)))
  refine FunA.callW hP hT (c_impl_ConcatWords u.reverse v (by simp; omega) (by omega)) (by simp only [AW1, simprocAttr, Int.toNat_natCast, beq_self_eq_true]) ?_
  rintro rs o ⟨nn, rfl, rfl⟩
  (try simp only [AW1, simprocAttr, Int.toNat_natCast, beq_self_eq_true, hX]); (repeat (with_reducible refine And.intro ?_ ?_); focus (first | omega | (intros; simp_all; done) | (intro h; simp only [VB] at h; omega) | (intros; simp_all; omega)))
  refine FunA.callW hP hT (c_impl_lengthOf c (u.reverse ++ v) hc hlw (by simp; omega)) (by simp only [AW1, simprocAttr, Int.toNat_natCast, beq_self_eq_true]) ?_
  rintro rs o ⟨rfl, rfl⟩
  simp (disch := omega) only [wrap_id, AW1, simprocAttr, Int.toNat_natCast, beq_self_eq_true, hX]; (repeat (with_reducible refine And.intro ?_ ?_); focus (first | omega | (intros; simp_all; done) | (intro h; simp only [VB] at h; omega) | (intros; simp_all; omega)))
  refine FunA.callW hP hT (c_impl_lengthOf c v hc h6 (by omega)) (by simp only [AW1, simprocAttr, Int.toNat_natCast, beq_self_eq_true]) ?_
  rintro rs o ⟨rfl, rfl⟩
  simp (disch := omega) only [wrap_id, AW1, simprocAttr, Int.toNat_natCast, beq_self_eq_true, hX]; (repeat (with_reducible refine And.intro ?_ ?_); focus (first | omega | (intros; simp_all; done) | (intro h; simp only [VB] at h; omega) | (intros; simp_all; omega)))
  (repeat (with_reducible refine And.intro ?_ ?_); focus (first | omega | (intros; simp_all; done) | (intro h; simp only [VB] at h; omega) | (intros; simp_all; omega))); refine hK _ ?_; clear hK K; (repeat (first | refine Run.seq ?_ | refine Run.skip ?_ | refine Run.label ?_ | refine Run.block ?_ | refine Run.unblock ?_))
  refine Run.le (Le.cut0 hpin [_, _] (fr' := [(6, true, .v (.bool (((redL c u).length : Int) + (redL c (u.reverse ++ v)).length == (redL c v).length)))]) (obs' := []) rfl (by simp only [AW1, simprocAttr, Int.toNat_natCast, beq_self_eq_true]; try simp) rfl) ?_
  refine Run.retW [6] (by decide) (by rw [hfn]; rfl) (by simp only [AW1, simprocAttr, Int.toNat_natCast, beq_self_eq_true, hX]; rfl) (by simp only [AW1, simprocAttr, Int.toNat_natCast, beq_self_eq_true, hX]) (hfin _ _ rfl rfl ?_)
  refine ⟨?_, rfl⟩
  have e1 : wordB c u = true := wordB_iff.2 ⟨hc, h2, h3⟩
  have e2 : wordB c v = true := wordB_iff.2 ⟨hc, h5, h6⟩
  unfold wkB
  rw [e1, e2]
  congr 2
  simp only [Bool.true_and]
  rw [Bool.eq_iff_iff]
  simp only [beq_iff_eq, decide_eq_true_eq]
  omega

theorem c_impl_IsWeakBelow (c : List (List Int)) (u v : List Int) (hcl : c.length ≤ 1048576) :
    FunA B 30 [.sl false (.row false) c, .sl false .int u, .sl false .int v] (fun rs o => rs = [.bool (wkB c u v)] ∧ o = []) := by
  refine FunA.walk B_ok (fn := Try.f30) (fun vs w => Try.call30 vs w) Try.func30 rfl (by rw [Try.ntmps30]; simp) (fun C hC hP hT hΓ hbt hfn hpin hfin => ?_); have hX := BX; rw [← hΓ, ← hbt] at hX; rw [Try.ntmps30]; simp only [AW1, simprocAttr, Int.toNat_natCast, beq_self_eq_true, hX]
  (repeat (first | refine Run.seq ?_ | refine Run.skip ?_ | refine Run.label ?_ | refine Run.block ?_ | refine Run.unblock ?_)); refine Run.regionW hC (fun K hK => ?_); simp only [AW1, simprocAttr, Int.toNat_natCast, beq_self_eq_true, hX]; (repeat (with_reducible refine And.intro ?_ ?_); focus (first | omega | (intros; simp_all; done) | (intro h; simp only [VB] at h; omega) | (intros; simp_all; omega))); refine hK _ ?_; clear hK K; (repeat (first | refine Run.seq ?_ | refine Run.skip ?_ | refine Run.label ?_ | refine Run.block ?_ | refine Run.unblock ?_))
  (repeat (first | refine Run.seq ?_ | refine Run.skip ?_ | refine Run.label ?_ | refine Run.block ?_ | refine Run.unblock ?_)); refine Run.regionW hC (fun K hK => ?_); simp only [AW1, simprocAttr, Int.toNat_natCast, beq_self_eq_true, hX]; (repeat (with_reducible refine And.intro ?_ ?_); focus (first | omega | (intros; simp_all; done) | (intro h; simp only [VB] at h; omega) | (intros; simp_all; omega)))
  refine FunA.callW hP hT (c_impl_IsWord c u) (by simp only [AW1, simprocAttr, Int.toNat_natCast, beq_self_eq_true]) ?_
  rintro rs o ⟨rfl, rfl⟩
  cases hu : wordB c u with
  | false =>
    (try simp only [AW1, simprocAttr, Int.toNat_natCast, beq_self_eq_true, hX]); (repeat (with_reducible refine And.intro ?_ ?_); focus (first | omega | (intros; simp_all; done) | (intro h; simp only [VB] at h; omega) | (intros; simp_all; omega)))
    refine .inl (CallG.off (.bool false) ?_)
    (try simp only [AW1, simprocAttr, Int.toNat_natCast, beq_self_eq_true, hX]); (repeat (with_reducible refine And.intro ?_ ?_); focus (first | omega | (intros; simp_all; done) | (intro h; simp only [VB] at h; omega) | (intros; simp_all; omega)))
    refine .inl (CallG.off (.bool false) ?_)
    (try simp only [AW1, simprocAttr, Int.toNat_natCast, beq_self_eq_true, hX]); (repeat (with_reducible refine And.intro ?_ ?_); focus (first | omega | (intros; simp_all; done) | (intro h; simp only [VB] at h; omega) | (intros; simp_all; omega)))
    (repeat (with_reducible refine And.intro ?_ ?_); focus (first | omega | (intros; simp_all; done) | (intro h; simp only [VB] at h; omega) | (intros; simp_all; omega))); refine hK _ ?_; clear hK K; (repeat (first | refine Run.seq ?_ | refine Run.skip ?_ | refine Run.label ?_ | refine Run.block ?_ | refine Run.unblock ?_))
    refine Run.retW [6] (by decide) (by rw [hfn]; rfl) (by simp only [AW1, simprocAttr, Int.toNat_natCast, beq_self_eq_true, hX]; rfl) (by simp only [AW1, simprocAttr, Int.toNat_natCast, beq_self_eq_true, hX]) (hfin _ _ rfl rfl ?_)
    simp [wkB, hu]
  | true =>
    (try simp only [AW1, simprocAttr, Int.toNat_natCast, beq_self_eq_true, hX]); (repeat (with_reducible refine And.intro ?_ ?_); focus (first | omega | (intros; simp_all; done) | (intro h; simp only [VB] at h; omega) | (intros; simp_all; omega)))
    refine .inl (FunA.callG hP hT (c_impl_IsWord c v) (fun _ => rfl) (fun _ => by simp only [AW1, simprocAttr, Int.toNat_natCast, beq_self_eq_true]) ?_)
    cases hv : wordB c v with
    | false =>
      (try simp only [AW1, simprocAttr, Int.toNat_natCast, beq_self_eq_true, hX]); (repeat (with_reducible refine And.intro ?_ ?_); focus (first | omega | (intros; simp_all; done) | (intro h; simp only [VB] at h; omega) | (intros; simp_all; omega)))
      refine .inl (CallG.off (.bool false) ?_)
      (try simp only [AW1, simprocAttr, Int.toNat_natCast, beq_self_eq_true, hX]); (repeat (with_reducible refine And.intro ?_ ?_); focus (first | omega | (intros; simp_all; done) | (intro h; simp only [VB] at h; omega) | (intros; simp_all; omega)))
      (repeat (with_reducible refine And.intro ?_ ?_); focus (first | omega | (intros; simp_all; done) | (intro h; simp only [VB] at h; omega) | (intros; simp_all; omega))); refine hK _ ?_; clear hK K; (repeat (first | refine Run.seq ?_ | refine Run.skip ?_ | refine Run.label ?_ | refine Run.block ?_ | refine Run.unblock ?_))
      refine Run.retW [6] (by decide) (by rw [hfn]; rfl) (by simp only [AW1, simprocAttr, Int.toNat_natCast, beq_self_eq_true, hX]; rfl) (by simp only [AW1, simprocAttr, Int.toNat_natCast, beq_self_eq_true, hX]) (hfin _ _ rfl rfl ?_)
      simp [wkB, hu, hv]
    | true =>
      (try simp only [AW1, simprocAttr, Int.toNat_natCast, beq_self_eq_true, hX]); (repeat (with_reducible refine And.intro ?_ ?_); focus (first | omega | (intros; simp_all; done) | (intro h; simp only [VB] at h; omega) | (intros; simp_all; omega)))
      refine .inl (FunA.callG hP hT (c_impl_weakBelow c u v (wordB_iff.1 hu) (wordB_iff.1 hv)) (fun _ => rfl) (fun _ => by simp only [AW1, simprocAttr, Int.toNat_natCast, beq_self_eq_true]) ?_)
      (try simp only [AW1, simprocAttr, Int.toNat_natCast, beq_self_eq_true, hX]); (repeat (with_reducible refine And.intro ?_ ?_); focus (first | omega | (intros; simp_all; done) | (intro h; simp only [VB] at h; omega) | (intros; simp_all; omega)))
      (repeat (with_reducible refine And.intro ?_ ?_); focus (first | omega | (intros; simp_all; done) | (intro h; simp only [VB] at h; omega) | (intros; simp_all; omega))); refine hK _ ?_; clear hK K; (repeat (first | refine Run.seq ?_ | refine Run.skip ?_ | refine Run.label ?_ | refine Run.block ?_ | refine Run.unblock ?_))
      refine Run.retW [6] (by decide) (by rw [hfn]; rfl) (by simp only [AW1, simprocAttr, Int.toNat_natCast, beq_self_eq_true, hX]; rfl) (by simp only [AW1, simprocAttr, Int.toNat_natCast, beq_self_eq_true, hX]) (hfin _ _ rfl rfl ?_)
      simp

theorem c_spec_IsWeakBelow (c : List (List Int)) (u v : List Int) (hcl : c.length ≤ 1048576) :
    FunA B 29 [.sl false (.row false) c, .sl false .int u, .sl false .int v] (fun rs o => rs = [.bool (wkB c u v)] ∧ o = []) := by
  refine FunA.walk B_ok (fn := Try.f29) (fun vs w => Try.call29 vs w) Try.func29 rfl (by rw [Try.ntmps29]; simp) (fun C hC hP hT hΓ hbt hfn hpin hfin => ?_); have hX := BX; rw [← hΓ, ← hbt] at hX; rw [Try.ntmps29]; simp only [AW1, simprocAttr, Int.toNat_natCast, beq_self_eq_true, hX]
  (repeat (first | refine Run.seq ?_ | refine Run.skip ?_ | refine Run.label ?_ | refine Run.block ?_ | refine Run.unblock ?_)); refine Run.regionW hC (fun K hK => ?_); simp only [AW1, simprocAttr, Int.toNat_natCast, beq_self_eq_true, hX]; (repeat (with_reducible refine And.intro ?_ ?_); focus (first | omega | (intros; simp_all; done) | (intro h; simp only [VB] at h; omega) | (intros; simp_all; omega))); refine hK _ ?_; clear hK K; (repeat (first | refine Run.seq ?_ | refine Run.skip ?_ | refine Run.label ?_ | refine Run.block ?_ | refine Run.unblock ?_))
  (repeat (first | refine Run.seq ?_ | refine Run.skip ?_ | refine Run.label ?_ | refine Run.block ?_ | refine Run.unblock ?_)); refine Run.regionW hC (fun K hK => ?_); simp only [AW1, simprocAttr, Int.toNat_natCast, beq_self_eq_true, hX]; (repeat (with_reducible refine And.intro ?_ ?_); focus (first | omega | (intros; simp_all; done) | (intro h; simp only [VB] at h; omega) | (intros; simp_all; omega)))
  refine FunA.callW hP hT (c_spec_IsWord c u hcl) (by simp only [AW1, simprocAttr, Int.toNat_natCast, beq_self_eq_true]) ?_
  rintro rs o ⟨rfl, rfl⟩
  (try simp only [AW1, simprocAttr, Int.toNat_natCast, beq_self_eq_true, hX]); (repeat (with_reducible refine And.intro ?_ ?_); focus (first | omega | (intros; simp_all; done) | (intro h; simp only [VB] at h; omega) | (intros; simp_all; omega)))
  refine .inl (FunA.callG hP hT (c_spec_IsWord c v hcl) (fun _ => rfl) (fun _ => by simp only [AW1, simprocAttr, Int.toNat_natCast, beq_self_eq_true]) ?_)
  (try simp only [AW1, simprocAttr, Int.toNat_natCast, beq_self_eq_true, hX]); (repeat (with_reducible refine And.intro ?_ ?_); focus (first | omega | (intros; simp_all; done) | (intro h; simp only [VB] at h; omega) | (intros; simp_all; omega)))
  (repeat (with_reducible refine And.intro ?_ ?_); focus (first | omega | (intros; simp_all; done) | (intro h; simp only [VB] at h; omega) | (intros; simp_all; omega))); refine hK _ ?_; clear hK K; (repeat (first | refine Run.seq ?_ | refine Run.skip ?_ | refine Run.label ?_ | refine Run.block ?_ | refine Run.unblock ?_))
  (repeat (first | refine Run.seq ?_ | refine Run.skip ?_ | refine Run.label ?_ | refine Run.block ?_ | refine Run.unblock ?_)); refine Run.condW (by simp only [AW1, simprocAttr, Int.toNat_natCast, beq_self_eq_true, hX]; rfl) (by simp only [AW1, simprocAttr, Int.toNat_natCast, beq_self_eq_true, hX]) ?_ ?_
  · intro h
    (repeat (first | refine Run.seq ?_ | refine Run.skip ?_ | refine Run.label ?_ | refine Run.block ?_ | refine Run.unblock ?_)); refine Run.regionW hC (fun K hK => ?_); simp only [AW1, simprocAttr, Int.toNat_natCast, beq_self_eq_true, hX]; (repeat (with_reducible refine And.intro ?_ ?_); focus (first | omega | (intros; simp_all; done) | (intro h; simp only [VB] at h; omega) | (intros; simp_all; omega))); refine hK _ ?_; clear hK K; (repeat (first | refine Run.seq ?_ | refine Run.skip ?_ | refine Run.label ?_ | refine Run.block ?_ | refine Run.unblock ?_))
    refine Run.retW [6] (by decide) (by rw [hfn]; rfl) (by simp only [AW1, simprocAttr, Int.toNat_natCast, beq_self_eq_true, hX]; rfl) (by simp only [AW1, simprocAttr, Int.toNat_natCast, beq_self_eq_true, hX]) (hfin _ _ rfl rfl ?_)
    revert h
    cases hu : wordB c u <;> cases hv : wordB c v <;> simp [wkB, hu, hv]
  · intro h
    have hu : wordB c u = true := by revert h; cases hu : wordB c u <;> simp
    have hv : wordB c v = true := by revert h; cases hv : wordB c v <;> simp [hu]
    obtain ⟨hc, h2, h3⟩ := wordB_iff.1 hu
    obtain ⟨_, h5, h6⟩ := wordB_iff.1 hv
    obtain ⟨a1, a2, a3, a4, a5⟩ := red_spec hc h3 (by omega)
    obtain ⟨b1, b2, b3, b4, b5⟩ := red_spec hc h6 (by omega)
    have hlw : letters c.length ((redL c u).reverse ++ redL c v) := letters_append.2 ⟨letters_reverse a1, b1⟩
    obtain ⟨d1, d2, _⟩ := red_spec hc hlw (by simp; omega)
    simp at d2
    have hsame : redL c ((redL c u).reverse ++ redL c v) = redL c (u.reverse ++ v) := weak_same hc a1 h3 a4 b4
    (repeat (first | refine Run.seq ?_ | refine Run.skip ?_ | refine Run.label ?_ | refine Run.block ?_ | refine Run.unblock ?_)); refine Run.regionW hC (fun K hK => ?_); simp only [AW1, simprocAttr, Int.toNat_natCast, beq_self_eq_true, hX]; (repeat (with_reducible refine And.intro ?_ ?_); focus (first | omega | (intros; simp_all; done) | (intro h; simp only [VB] at h; omega) | (intros; simp_all; omega)))
    refine FunA.callW hP hT (c_spec_l8Normal c u hc h3 (by omega)) (by simp only [AW1, simprocAttr, Int.toNat_natCast, beq_self_eq_true]) ?_
    rintro rs o ⟨rfl, rfl⟩
    (try simp only [AW1, simprocAttr, Int.toNat_natCast, beq_self_eq_true, hX]); (repeat (with_reducible refine And.intro ?_ ?_); focus (first | omega | (intros; simp_all; done) | (intro h; simp only [VB] at h; omega) | (intros; simp_all; omega)))
    (repeat (with_reducible refine And.intro ?_ ?_); focus (first | omega | (intros; simp_all; done) | (intro h; simp only [VB] at h; omega) | (intros; simp_all; omega))); refine hK _ ?_; clear hK K; (repeat (first | refine Run.seq ?_ | refine Run.skip ?_ | refine Run.label ?_ | refine Run.block ?_ | refine Run.unblock ?_))
    (repeat (first | refine Run.seq ?_ | refine Run.skip ?_ | refine Run.label ?_ | refine Run.block ?_ | refine Run.unblock ?_)); refine Run.regionW hC (fun K hK => ?_); simp only [AW1, simprocAttr, Int.toNat_natCast, beq_self_eq_true, hX]; (repeat (with_reducible refine And.intro ?_ ?_); focus (first | omega | (intros; simp_all; done) | (intro h; simp only [VB] at h; omega) | (intros; simp_all; omega)))
    refine FunA.callW hP hT (c_spec_l8Normal c v hc h6 (by omega)) (by simp only [AW1, simprocAttr, Int.toNat_natCast, beq_self_eq_true]) ?_
    rintro rs o ⟨rfl, rfl⟩
    (try simp only [AW1, simprocAttr, Int.toNat_natCast, beq_self_eq_true, hX]); (repeat (with_reducible refine And.intro ?_ ?_); focus (first | omega | (intros; simp_all; done) | (intro h; simp only [VB] at h; omega) | (intros; simp_all; omega)))
    (repeat (with_reducible refine And.intro ?_ ?_); focus (first | omega | (intros; simp_all; done) | (intro h; simp only [VB] at h; omega) | (intros; simp_all; omega))); refine hK _ ?_; clear hK K; (repeat (first | refine Run.seq ?_ | refine Run.skip ?_ | refine Run.label ?_ | refine Run.block ?_ | refine Run.unblock ?_))
    (repeat (first | refine Run.seq ?_ | refine Run.skip ?_ | refine Run.label ?_ | refine Run.block ?_ | refine Run.unblock ?_)); refine Run.regionW hC (fun K hK => ?_); simp only [AW1, simprocAttr, Int.toNat_natCast, beq_self_eq_true, hX]; (repeat (with_reducible refine And.intro ?_ ?_); focus (first | omega | (intros; simp_all; done) | (intro h; simp only [VB] at h; omega) | (intros; simp_all; omega)))
    refine FunA.callW hP hT (c_spec_ReverseWord (redL c u) (by omega)) (by simp only [AW1, simprocAttr, Int.toNat_natCast, beq_self_eq_true]) ?_
    rintro rs o ⟨rfl, rfl⟩
    (try simp only [AW1, simprocAttr, Int.toNat_natCast, beq_self_eq_true, hX]); (repeat (with_reducible refine And.intro ?_ ?_); focus (first | omega | (intros; simp_all; done) | (intro h; simp only [VB] at h; omega) | (intros; simp_all; omega)))
    refine FunA.callW hP hT (c_spec_ConcatWords (redL c u).reverse (redL c v) (by simp; omega) (by omega)) (by simp only [AW1, simprocAttr, Int.toNat_natCast, beq_self_eq_true]) ?_
    rintro rs o ⟨rfl, rfl⟩
    (try simp only [AW1, simprocAttr, Int.toNat_natCast, beq_self_eq_true, hX]); (repeat (with_reducible refine And.intro ?_ ?_); focus (first | omega | (intros; simp_all; done) | (intro h; simp only [VB] at h; omega) | (intros; simp_all; omega)))
    refine FunA.callW hP hT (c_spec_l8Normal c ((redL c u).reverse ++ redL c v) hc hlw (by simp; omega)) (by simp only [AW1, simprocAttr, Int.toNat_natCast, beq_self_eq_true]) ?_
    rintro rs o ⟨rfl, rfl⟩
    rw [hsame]
    rw [hsame] at d2
    simp (disch := omega) only [wrap_id, AW1, simprocAttr, Int.toNat_natCast, beq_self_eq_true, hX]; (repeat (with_reducible refine And.intro ?_ ?_); focus (first | omega | (intros; simp_all; done) | (intro h; simp only [VB] at h; omega) | (intros; simp_all; omega)))
    (repeat (with_reducible refine And.intro ?_ ?_); focus (first | omega | (intros; simp_all; done) | (intro h; simp only [VB] at h; omega) | (intros; simp_all; omega))); refine hK _ ?_; clear hK K; (repeat (first | refine Run.seq ?_ | refine Run.skip ?_ | refine Run.label ?_ | refine Run.block ?_ | refine Run.unblock ?_))
    refine Run.le (Le.cut0 hpin [_, _, _, _, _] (fr' := [(6, true, .v (.bool (((redL c u).length : Int) + (redL c (u.reverse ++ v)).length == (redL c v).length)))]) (obs' := []) rfl (by simp only [AW1, simprocAttr, Int.toNat_natCast, beq_self_eq_true]; try simp) rfl) ?_
    refine Run.retW [6] (by decide) (by rw [hfn]; rfl) (by simp only [AW1, simprocAttr, Int.toNat_natCast, beq_self_eq_true, hX]; rfl) (by simp only [AW1, simprocAttr, Int.toNat_natCast, beq_self_eq_true, hX]) (hfin _ _ rfl rfl ?_)
    refine ⟨?_, rfl⟩
    unfold wkB
    rw [hu, hv]
    congr 2
    simp only [Bool.true_and]
    rw [Bool.eq_iff_iff]
    simp only [beq_iff_eq, decide_eq_true_eq]
    omega

/-- A word of a parabolic subgroup. -/
noncomputable def parB (c : List (List Int)) (s w : List Int) : Bool := wordB c w && isSetB c s && (redL c w).all (fun x => decide (x ∈ s))

theorem all_snoc (p : Int → Bool) (w : List Int) (i : Nat) (h : i < w.length) : (w.take (i + 1)).all p = ((w.take i).all p && p (w.getD i 0)) := by
  rw [← take_snoc 0 w i h]; simp
theorem all_false (p : Int → Bool) (w : List Int) (i : Nat) (h : i < w.length) (hp : p (w.getD i 0) = false) : w.all p = false := by
  cases hh : w.all p with
  | false => rfl
  | true =>
    rw [List.all_eq_true] at hh
    have := hh _ (getD_mem h)
    rw [hp] at this
    exact this.symm

theorem set_len {c : List (List Int)} {s : List Int} (h : setP c.length s) : s.length ≤ c.length := by
  have key : ∀ i, i < s.length → (i : Int) ≤ s.getD i 0 := by
    intro i
    induction i with
    | zero => intro h0; exact (h 0 h0).1
    | succ i ih =>
      intro h1
      have := ih (by omega)
      have := (h (i + 1) h1).2.2 (by omega)
      rw [Nat.add_sub_cancel] at this
      omega
  by_cases h0 : s.length = 0
  · omega
  · have := key (s.length - 1) (by omega)
    have := (h (s.length - 1) (by omega)).2.1
    omega
theorem set_letters {n : Nat} {s : List Int} (h : setP n s) : letters n s := letters_getD.2 fun i hi => ⟨(h i hi).1, (h i hi).2.1⟩

theorem c_spec_l3Has (s : List Int) (x : Int) : FunA B 55 [.sl false .int s, .int .i64 x] (fun rs o => rs = [.bool (decide (x ∈ s))] ∧ o = []) := by
  refine FunA.walk B_ok (fn := Try.f55) (fun vs w => Try.call55 vs w) Try.func55 rfl (by rw [Try.ntmps55]; simp) (fun C hC hP hT hΓ hbt hfn hpin hfin => ?_); have hX := BX; rw [← hΓ, ← hbt] at hX; rw [Try.ntmps55]; simp only [AW1, simprocAttr, Int.toNat_natCast, beq_self_eq_true, hX]
  refine Run.len 0 rfl fun hlens => ?_
  (repeat (first | refine Run.seq ?_ | refine Run.skip ?_ | refine Run.label ?_ | refine Run.block ?_ | refine Run.unblock ?_)); refine Run.regionW hC (fun K hK => ?_); simp only [AW1, simprocAttr, Int.toNat_natCast, beq_self_eq_true, hX]; (repeat (with_reducible refine And.intro ?_ ?_); focus (first | omega | (intros; simp_all; done) | (intro h; simp only [VB] at h; omega) | (intros; simp_all; omega))); refine hK _ ?_; clear hK K; (repeat (first | refine Run.seq ?_ | refine Run.skip ?_ | refine Run.label ?_ | refine Run.block ?_ | refine Run.unblock ?_))
  (repeat (first | refine Run.seq ?_ | refine Run.skip ?_ | refine Run.label ?_ | refine Run.block ?_ | refine Run.unblock ?_)); refine Run.regionW hC (fun K hK => ?_); simp only [AW1, simprocAttr, Int.toNat_natCast, beq_self_eq_true, hX]; (repeat (with_reducible refine And.intro ?_ ?_); focus (first | omega | (intros; simp_all; done) | (intro h; simp only [VB] at h; omega) | (intros; simp_all; omega))); refine hK _ ?_; clear hK K; (repeat (first | refine Run.seq ?_ | refine Run.skip ?_ | refine Run.label ?_ | refine Run.block ?_ | refine Run.unblock ?_))
  refine Run.loopI (X := Nat) (fun i => ⟨18, [(0, true, .v (.sl false .int s)), (1, true, .v (.int .i64 x)), (4, true, .v (.bool false)), (5, true, .v (.int .i64 i))], []⟩) (fun i => i ≤ s.length ∧ x ∉ s.take i) (fun i => s.length - i) 0 ⟨Nat.zero_le _, by simp⟩ ?_ ?_
  · exact Le.sub (by simp only [AW1, simprocAttr, Int.toNat_natCast, beq_self_eq_true]) (by simp only [AW1, simprocAttr, Int.toNat_natCast, beq_self_eq_true]; try simp)
  rintro i ⟨hi, hf⟩ ih
  (repeat (first | refine Run.seq ?_ | refine Run.skip ?_ | refine Run.label ?_ | refine Run.block ?_ | refine Run.unblock ?_)); refine Run.regionW hC (fun K hK => ?_); simp only [AW1, simprocAttr, Int.toNat_natCast, beq_self_eq_true, hX]; (repeat (with_reducible refine And.intro ?_ ?_); focus (first | omega | (intros; simp_all; done) | (intro h; simp only [VB] at h; omega) | (intros; simp_all; omega))); refine hK _ ?_; clear hK K; (repeat (first | refine Run.seq ?_ | refine Run.skip ?_ | refine Run.label ?_ | refine Run.block ?_ | refine Run.unblock ?_))
  (repeat (first | refine Run.seq ?_ | refine Run.skip ?_ | refine Run.label ?_ | refine Run.block ?_ | refine Run.unblock ?_)); refine Run.condW (by simp only [AW1, simprocAttr, Int.toNat_natCast, beq_self_eq_true, hX]; rfl) (by simp only [AW1, simprocAttr, Int.toNat_natCast, beq_self_eq_true, hX]) ?_ ?_
  · intro h
    have h : i < s.length := by simpa using h
    (repeat (first | refine Run.seq ?_ | refine Run.skip ?_ | refine Run.label ?_ | refine Run.block ?_ | refine Run.unblock ?_)); refine Run.regionW hC (fun K hK => ?_); simp only [AW1, simprocAttr, Int.toNat_natCast, beq_self_eq_true, hX]; (repeat (with_reducible refine And.intro ?_ ?_); focus (first | omega | (intros; simp_all; done) | (intro h; simp only [VB] at h; omega) | (intros; simp_all; omega))); refine hK _ ?_; clear hK K; (repeat (first | refine Run.seq ?_ | refine Run.skip ?_ | refine Run.label ?_ | refine Run.block ?_ | refine Run.unblock ?_))
    (repeat (first | refine Run.seq ?_ | refine Run.skip ?_ | refine Run.label ?_ | refine Run.block ?_ | refine Run.unblock ?_)); refine Run.condW (by simp only [AW1, simprocAttr, Int.toNat_natCast, beq_self_eq_true, hX]; rfl) (by simp only [AW1, simprocAttr, Int.toNat_natCast, beq_self_eq_true, hX]) ?_ ?_
    · intro hx
      have hx : s.getD i 0 = x := by simpa using hx
      (repeat (first | refine Run.seq ?_ | refine Run.skip ?_ | refine Run.label ?_ | refine Run.block ?_ | refine Run.unblock ?_)); refine Run.regionW hC (fun K hK => ?_); simp only [AW1, simprocAttr, Int.toNat_natCast, beq_self_eq_true, hX]; (repeat (with_reducible refine And.intro ?_ ?_); focus (first | omega | (intros; simp_all; done) | (intro h; simp only [VB] at h; omega) | (intros; simp_all; omega))); refine hK _ ?_; clear hK K; (repeat (first | refine Run.seq ?_ | refine Run.skip ?_ | refine Run.label ?_ | refine Run.block ?_ | refine Run.unblock ?_))
      refine Run.retW [4] (by decide) (by rw [hfn]; rfl) (by simp only [AW1, simprocAttr, Int.toNat_natCast, beq_self_eq_true, hX]; rfl) (by simp only [AW1, simprocAttr, Int.toNat_natCast, beq_self_eq_true, hX]) (hfin _ _ rfl rfl ?_)
      refine ⟨?_, rfl⟩
      have : x ∈ s := by rw [← hx]; exact getD_mem h
      simp [this]
    · intro hx
      have hx : ¬ s.getD i 0 = x := by simpa using hx
      (repeat (first | refine Run.seq ?_ | refine Run.skip ?_ | refine Run.label ?_ | refine Run.block ?_ | refine Run.unblock ?_)); refine Run.regionW hC (fun K hK => ?_); simp (disch := omega) only [wrap_id, AW1, simprocAttr, Int.toNat_natCast, beq_self_eq_true, hX]; (repeat (with_reducible refine And.intro ?_ ?_); focus (first | omega | (intros; simp_all; done) | (intro h; simp only [VB] at h; omega) | (intros; simp_all; omega))); refine hK _ ?_; clear hK K; (repeat (first | refine Run.seq ?_ | refine Run.skip ?_ | refine Run.label ?_ | refine Run.block ?_ | refine Run.unblock ?_))
      refine Run.le ?_ (ih (i + 1) ⟨h, ?_⟩ (by omega))
      · exact Le.sub (by simp only [AW1, simprocAttr, Int.toNat_natCast, beq_self_eq_true]) (by simp only [AW1, simprocAttr, Int.toNat_natCast, beq_self_eq_true, Option.some.injEq, Prod.mk.injEq, Sl.v.injEq, AV.int.injEq, AV.own.injEq, AV.bool.injEq]; try (repeat' apply And.intro); all_goals omega)
      · rw [← take_snoc 0 s i h]
        simp only [List.mem_append, List.mem_singleton, not_or]
        exact ⟨hf, fun k => hx k.symm⟩
  · intro h
    have h : i = s.length := by simp at h; omega
    subst h
    rw [List.take_length] at hf
    refine Run.exit rfl ?_; (repeat (first | refine Run.seq ?_ | refine Run.skip ?_ | refine Run.label ?_ | refine Run.block ?_ | refine Run.unblock ?_))
    (repeat (first | refine Run.seq ?_ | refine Run.skip ?_ | refine Run.label ?_ | refine Run.block ?_ | refine Run.unblock ?_)); refine Run.regionW hC (fun K hK => ?_); simp only [AW1, simprocAttr, Int.toNat_natCast, beq_self_eq_true, hX]; (repeat (with_reducible refine And.intro ?_ ?_); focus (first | omega | (intros; simp_all; done) | (intro h; simp only [VB] at h; omega) | (intros; simp_all; omega))); refine hK _ ?_; clear hK K; (repeat (first | refine Run.seq ?_ | refine Run.skip ?_ | refine Run.label ?_ | refine Run.block ?_ | refine Run.unblock ?_))
    refine Run.retW [4] (by decide) (by rw [hfn]; rfl) (by simp only [AW1, simprocAttr, Int.toNat_natCast, beq_self_eq_true, hX]; rfl) (by simp only [AW1, simprocAttr, Int.toNat_natCast, beq_self_eq_true, hX]) (hfin _ _ rfl rfl ?_)
    simp [hf]

theorem c_spec_IsInParabolic (c : List (List Int)) (s w : List Int) (hcl : c.length ≤ 1048576) :
    FunA B 22 [.sl false (.row false) c, .sl false .int s, .sl false .int w] (fun rs o => rs = [.bool (parB c s w)] ∧ o = []) := by
  refine FunA.walk B_ok (fn := Try.f22) (fun vs w => Try.call22 vs w) Try.func22 rfl (by rw [Try.ntmps22]; simp) (fun C hC hP hT hΓ hbt hfn hpin hfin => ?_); have hX := BX; rw [← hΓ, ← hbt] at hX; rw [Try.ntmps22]; simp only [AW1, simprocAttr, Int.toNat_natCast, beq_self_eq_true, hX]
  have hnl : (nfW c w).length ≤ 15 := by
    unfold nfW
    split
    · rename_i h
      obtain ⟨h1, h2, h3⟩ := wordB_iff.1 h
      obtain ⟨_, k2, _⟩ := red_spec h1 h3 (by omega)
      omega
    · simp
  (repeat (first | refine Run.seq ?_ | refine Run.skip ?_ | refine Run.label ?_ | refine Run.block ?_ | refine Run.unblock ?_)); refine Run.regionW hC (fun K hK => ?_); simp only [AW1, simprocAttr, Int.toNat_natCast, beq_self_eq_true, hX]; (repeat (with_reducible refine And.intro ?_ ?_); focus (first | omega | (intros; simp_all; done) | (intro h; simp only [VB] at h; omega) | (intros; simp_all; omega))); refine hK _ ?_; clear hK K; (repeat (first | refine Run.seq ?_ | refine Run.skip ?_ | refine Run.label ?_ | refine Run.block ?_ | refine Run.unblock ?_))
  (repeat (first | refine Run.seq ?_ | refine Run.skip ?_ | refine Run.label ?_ | refine Run.block ?_ | refine Run.unblock ?_)); refine Run.regionW hC (fun K hK => ?_); simp only [AW1, simprocAttr, Int.toNat_natCast, beq_self_eq_true, hX]; (repeat (with_reducible refine And.intro ?_ ?_); focus (first | omega | (intros; simp_all; done) | (intro h; simp only [VB] at h; omega) | (intros; simp_all; omega)))
  refine FunA.callW hP hT (c_spec_NormalForm c w hcl) (by simp only [AW1, simprocAttr, Int.toNat_natCast, beq_self_eq_true]) ?_
  rintro rs o ⟨rfl, rfl⟩
  (try simp only [AW1, simprocAttr, Int.toNat_natCast, beq_self_eq_true, hX]); (repeat (with_reducible refine And.intro ?_ ?_); focus (first | omega | (intros; simp_all; done) | (intro h; simp only [VB] at h; omega) | (intros; simp_all; omega)))
  (repeat (with_reducible refine And.intro ?_ ?_); focus (first | omega | (intros; simp_all; done) | (intro h; simp only [VB] at h; omega) | (intros; simp_all; omega))); refine hK _ ?_; clear hK K; (repeat (first | refine Run.seq ?_ | refine Run.skip ?_ | refine Run.label ?_ | refine Run.block ?_ | refine Run.unblock ?_))
  (repeat (first | refine Run.seq ?_ | refine Run.skip ?_ | refine Run.label ?_ | refine Run.block ?_ | refine Run.unblock ?_)); refine Run.regionW hC (fun K hK => ?_); simp only [AW1, simprocAttr, Int.toNat_natCast, beq_self_eq_true, hX]; (repeat (with_reducible refine And.intro ?_ ?_); focus (first | omega | (intros; simp_all; done) | (intro h; simp only [VB] at h; omega) | (intros; simp_all; omega))); refine hK _ ?_; clear hK K; (repeat (first | refine Run.seq ?_ | refine Run.skip ?_ | refine Run.label ?_ | refine Run.block ?_ | refine Run.unblock ?_))
  refine Run.loopI (X := Nat) (fun i => ⟨37, [(0, true, .v (.sl false (.row false) c)), (1, true, .v (.sl false .int s)), (6, true, .v (.bool false)), (7, true, .v (.own 0 0)), (8, true, .v (.bool (wordB c w && ((nfW c w).take i).all fun x => decide (x ∈ s)))), (9, true, .v (.int .i64 i))], [.arr .int (nfW c w) 0 true]⟩) (fun i => i ≤ (nfW c w).length) (fun i => (nfW c w).length - i) 0 (Nat.zero_le _) ?_ ?_
  · exact Le.sub (by rfl) (by simp only [AW1, simprocAttr, Int.toNat_natCast, beq_self_eq_true, hX]; try simp)
  rintro i hi ih
  (repeat (first | refine Run.seq ?_ | refine Run.skip ?_ | refine Run.label ?_ | refine Run.block ?_ | refine Run.unblock ?_)); refine Run.regionW hC (fun K hK => ?_); simp only [AW1, simprocAttr, Int.toNat_natCast, beq_self_eq_true, hX]; (repeat (with_reducible refine And.intro ?_ ?_); focus (first | omega | (intros; simp_all; done) | (intro h; simp only [VB] at h; omega) | (intros; simp_all; omega))); refine hK _ ?_; clear hK K; (repeat (first | refine Run.seq ?_ | refine Run.skip ?_ | refine Run.label ?_ | refine Run.block ?_ | refine Run.unblock ?_))
  (repeat (first | refine Run.seq ?_ | refine Run.skip ?_ | refine Run.label ?_ | refine Run.block ?_ | refine Run.unblock ?_)); refine Run.condW (by simp only [AW1, simprocAttr, Int.toNat_natCast, beq_self_eq_true, hX]; rfl) (by simp only [AW1, simprocAttr, Int.toNat_natCast, beq_self_eq_true, hX]) ?_ ?_
  · intro h
    have h : i < (nfW c w).length := by simpa using h
    (repeat (first | refine Run.seq ?_ | refine Run.skip ?_ | refine Run.label ?_ | refine Run.block ?_ | refine Run.unblock ?_)); refine Run.regionW hC (fun K hK => ?_); simp only [AW1, simprocAttr, Int.toNat_natCast, beq_self_eq_true, hX]; (repeat (with_reducible refine And.intro ?_ ?_); focus (first | omega | (intros; simp_all; done) | (intro h; simp only [VB] at h; omega) | (intros; simp_all; omega)))
    refine .inl (FunA.callG hP hT (c_spec_l3Has s ((nfW c w).getD i 0)) (fun _ => rfl) (fun _ => by simp only [AW1, simprocAttr, Int.toNat_natCast, beq_self_eq_true]) ?_)
    (try simp only [AW1, simprocAttr, Int.toNat_natCast, beq_self_eq_true, hX]); (repeat (with_reducible refine And.intro ?_ ?_); focus (first | omega | (intros; simp_all; done) | (intro h; simp only [VB] at h; omega) | (intros; simp_all; omega)))
    (repeat (with_reducible refine And.intro ?_ ?_); focus (first | omega | (intros; simp_all; done) | (intro h; simp only [VB] at h; omega) | (intros; simp_all; omega))); refine hK _ ?_; clear hK K; (repeat (first | refine Run.seq ?_ | refine Run.skip ?_ | refine Run.label ?_ | refine Run.block ?_ | refine Run.unblock ?_))
    (repeat (first | refine Run.seq ?_ | refine Run.skip ?_ | refine Run.label ?_ | refine Run.block ?_ | refine Run.unblock ?_)); refine Run.regionW hC (fun K hK => ?_); simp (disch := omega) only [wrap_id, AW1, simprocAttr, Int.toNat_natCast, beq_self_eq_true, hX]; (repeat (with_reducible refine And.intro ?_ ?_); focus (first | omega | (intros; simp_all; done) | (intro h; simp only [VB] at h; omega) | (intros; simp_all; omega))); refine hK _ ?_; clear hK K; (repeat (first | refine Run.seq ?_ | refine Run.skip ?_ | refine Run.label ?_ | refine Run.block ?_ | refine Run.unblock ?_))
    refine Run.le ?_ (ih (i + 1) h (by omega))
    refine Le.sub (by rfl) ?_
    rw [all_snoc _ _ i h]
    simp only [AW1, simprocAttr, Int.toNat_natCast, beq_self_eq_true]
    simp
    cases wordB c w <;> cases (List.take i (nfW c w)).all (fun x => decide (x ∈ s)) <;> rfl
  · intro h
    have h : i = (nfW c w).length := by simp at h; omega
    subst h
    rw [List.take_length]
    refine Run.exit rfl ?_; (repeat (first | refine Run.seq ?_ | refine Run.skip ?_ | refine Run.label ?_ | refine Run.block ?_ | refine Run.unblock ?_))
    (repeat (first | refine Run.seq ?_ | refine Run.skip ?_ | refine Run.label ?_ | refine Run.block ?_ | refine Run.unblock ?_)); refine Run.regionW hC (fun K hK => ?_); simp only [AW1, simprocAttr, Int.toNat_natCast, beq_self_eq_true, hX]; (repeat (with_reducible refine And.intro ?_ ?_); focus (first | omega | (intros; simp_all; done) | (intro h; simp only [VB] at h; omega) | (intros; simp_all; omega)))
    refine .inl (FunA.callG hP hT (c_spec_l3Set c s hcl) (fun _ => rfl) (fun _ => by simp only [AW1, simprocAttr, Int.toNat_natCast, beq_self_eq_true]) ?_)
    (try simp only [AW1, simprocAttr, Int.toNat_natCast, beq_self_eq_true, hX]); (repeat (with_reducible refine And.intro ?_ ?_); focus (first | omega | (intros; simp_all; done) | (intro h; simp only [VB] at h; omega) | (intros; simp_all; omega)))
    (repeat (with_reducible refine And.intro ?_ ?_); focus (first | omega | (intros; simp_all; done) | (intro h; simp only [VB] at h; omega) | (intros; simp_all; omega))); refine hK _ ?_; clear hK K; (repeat (first | refine Run.seq ?_ | refine Run.skip ?_ | refine Run.label ?_ | refine Run.block ?_ | refine Run.unblock ?_))
    refine Run.le (Le.cut0 hpin [_] (fr' := [(6, true, .v (.bool (parB c s w)))]) (obs' := []) rfl ?_ rfl) ?_
    · simp only [AW1, simprocAttr, Int.toNat_natCast, beq_self_eq_true]
      simp [parB, nfW]
      cases hw : wordB c w <;> simp
      cases isSetB c s <;> simp
    refine Run.retW [6] (by decide) (by rw [hfn]; rfl) (by simp only [AW1, simprocAttr, Int.toNat_natCast, beq_self_eq_true, hX]; rfl) (by simp only [AW1, simprocAttr, Int.toNat_natCast, beq_self_eq_true, hX]) (hfin _ _ rfl rfl ?_)
    exact ⟨rfl, rfl⟩

theorem c_impl_IsInParabolic (c : List (List Int)) (s w : List Int) (hcl : c.length ≤ 1048576) :
    FunA B 23 [.sl false (.row false) c, .sl false .int s, .sl false .int w] (fun rs o => rs = [.bool (parB c s w)] ∧ o = []) := by
  refine FunA.walk B_ok (fn := Try.f23) (fun vs w => Try.call23 vs w) Try.func23 rfl (by rw [Try.ntmps23]; simp) (fun C hC hP hT hΓ hbt hfn hpin hfin => ?_); have hX := BX; rw [← hΓ, ← hbt] at hX; rw [Try.ntmps23]; simp only [AW1, simprocAttr, Int.toNat_natCast, beq_self_eq_true, hX]
  (repeat (first | refine Run.seq ?_ | refine Run.skip ?_ | refine Run.label ?_ | refine Run.block ?_ | refine Run.unblock ?_)); refine Run.regionW hC (fun K hK => ?_); simp only [AW1, simprocAttr, Int.toNat_natCast, beq_self_eq_true, hX]; (repeat (with_reducible refine And.intro ?_ ?_); focus (first | omega | (intros; simp_all; done) | (intro h; simp only [VB] at h; omega) | (intros; simp_all; omega))); refine hK _ ?_; clear hK K; (repeat (first | refine Run.seq ?_ | refine Run.skip ?_ | refine Run.label ?_ | refine Run.block ?_ | refine Run.unblock ?_))
  (repeat (first | refine Run.seq ?_ | refine Run.skip ?_ | refine Run.label ?_ | refine Run.block ?_ | refine Run.unblock ?_)); refine Run.regionW hC (fun K hK => ?_); simp only [AW1, simprocAttr, Int.toNat_natCast, beq_self_eq_true, hX]; (repeat (with_reducible refine And.intro ?_ ?_); focus (first | omega | (intros; simp_all; done) | (intro h; simp only [VB] at h; omega) | (intros; simp_all; omega)))
  refine FunA.callW hP hT (c_impl_IsWord c w) (by simp only [AW1, simprocAttr, Int.toNat_natCast, beq_self_eq_true]) ?_
  rintro rs o ⟨rfl, rfl⟩
  (try simp only [AW1, simprocAttr, Int.toNat_natCast, beq_self_eq_true, hX]); (repeat (with_reducible refine And.intro ?_ ?_); focus (first | omega | (intros; simp_all; done) | (intro h; simp only [VB] at h; omega) | (intros; simp_all; omega)))
  refine .inl (FunA.callG hP hT (c_impl_IsSet c s hcl) (fun _ => rfl) (fun _ => by simp only [AW1, simprocAttr, Int.toNat_natCast, beq_self_eq_true]) ?_)
  (try simp only [AW1, simprocAttr, Int.toNat_natCast, beq_self_eq_true, hX]); (repeat (with_reducible refine And.intro ?_ ?_); focus (first | omega | (intros; simp_all; done) | (intro h; simp only [VB] at h; omega) | (intros; simp_all; omega)))
  (repeat (with_reducible refine And.intro ?_ ?_); focus (first | omega | (intros; simp_all; done) | (intro h; simp only [VB] at h; omega) | (intros; simp_all; omega))); refine hK _ ?_; clear hK K; (repeat (first | refine Run.seq ?_ | refine Run.skip ?_ | refine Run.label ?_ | refine Run.block ?_ | refine Run.unblock ?_))
  (repeat (first | refine Run.seq ?_ | refine Run.skip ?_ | refine Run.label ?_ | refine Run.block ?_ | refine Run.unblock ?_)); refine Run.condW (by simp only [AW1, simprocAttr, Int.toNat_natCast, beq_self_eq_true, hX]; rfl) (by simp only [AW1, simprocAttr, Int.toNat_natCast, beq_self_eq_true, hX]) ?_ ?_
  · intro h
    (repeat (first | refine Run.seq ?_ | refine Run.skip ?_ | refine Run.label ?_ | refine Run.block ?_ | refine Run.unblock ?_)); refine Run.regionW hC (fun K hK => ?_); simp only [AW1, simprocAttr, Int.toNat_natCast, beq_self_eq_true, hX]; (repeat (with_reducible refine And.intro ?_ ?_); focus (first | omega | (intros; simp_all; done) | (intro h; simp only [VB] at h; omega) | (intros; simp_all; omega))); refine hK _ ?_; clear hK K; (repeat (first | refine Run.seq ?_ | refine Run.skip ?_ | refine Run.label ?_ | refine Run.block ?_ | refine Run.unblock ?_))
    refine Run.retW [6] (by decide) (by rw [hfn]; rfl) (by simp only [AW1, simprocAttr, Int.toNat_natCast, beq_self_eq_true, hX]; rfl) (by simp only [AW1, simprocAttr, Int.toNat_natCast, beq_self_eq_true, hX]) (hfin _ _ rfl rfl ?_)
    revert h
    cases hu : wordB c w <;> cases hv : isSetB c s <;> simp [parB, hu, hv]
  · intro h
    have hu : wordB c w = true := by revert h; cases hu : wordB c w <;> simp
    have hs : isSetB c s = true := by revert h; cases hv : isSetB c s <;> simp [hu]
    obtain ⟨hc, h2, h3⟩ := wordB_iff.1 hu
    have hsp : setP c.length s := by
      unfold isSetB at hs
      simp only [Bool.and_eq_true] at hs
      exact setB_iff.1 hs.2
    have hsl := set_len hsp
    obtain ⟨a1, a2, a3, a4, a5⟩ := red_spec hc h3 (by omega)
    have hp : parB c s w = (redL c w).all (fun x => decide (x ∈ s)) := by unfold parB; rw [hu, hs]; rfl
    (repeat (first | refine Run.seq ?_ | refine Run.skip ?_ | refine Run.label ?_ | refine Run.block ?_ | refine Run.unblock ?_)); refine Run.regionW hC (fun K hK => ?_); simp only [AW1, simprocAttr, Int.toNat_natCast, beq_self_eq_true, hX]; (repeat (with_reducible refine And.intro ?_ ?_); focus (first | omega | (intros; simp_all; done) | (intro h; simp only [VB] at h; omega) | (intros; simp_all; omega)))
    refine FunA.callW hP hT (c_impl_reduced c w hc h3 (by omega)) (by simp only [AW1, simprocAttr, Int.toNat_natCast, beq_self_eq_true]) ?_
    rintro rs o ⟨rfl, rfl⟩
    (try simp only [AW1, simprocAttr, Int.toNat_natCast, beq_self_eq_true, hX]); (repeat (with_reducible refine And.intro ?_ ?_); focus (first | omega | (intros; simp_all; done) | (intro h; simp only [VB] at h; omega) | (intros; simp_all; omega)))
    (repeat (with_reducible refine And.intro ?_ ?_); focus (first | omega | (intros; simp_all; done) | (intro h; simp only [VB] at h; omega) | (intros; simp_all; omega))); refine hK _ ?_; clear hK K; (repeat (first | refine Run.seq ?_ | refine Run.skip ?_ | refine Run.label ?_ | refine Run.block ?_ | refine Run.unblock ?_))
    refine Run.loopI (X := Nat) (fun i => ⟨32, [(0, true, .v (.sl false (.row false) c)), (1, true, .v (.sl false .int s)), (6, true, .v (.bool false)), (21, true, .v (.own 0 0)), (22, true, .v (.int .i64 (redL c w).length)), (23, true, .v (.int .i64 i))], [.arr .int (redL c w) 0 true]⟩) (fun i => i ≤ (redL c w).length ∧ ((redL c w).take i).all (fun x => decide (x ∈ s)) = true) (fun i => (redL c w).length - i) 0 ⟨Nat.zero_le _, by simp⟩ ?_ ?_
    · exact Le.sub (by rfl) (by simp only [AW1, simprocAttr, Int.toNat_natCast, beq_self_eq_true, hX]; try simp)
    rintro i ⟨hi, hall⟩ ih
    (repeat (first | refine Run.seq ?_ | refine Run.skip ?_ | refine Run.label ?_ | refine Run.block ?_ | refine Run.unblock ?_)); refine Run.regionW hC (fun K hK => ?_); simp only [AW1, simprocAttr, Int.toNat_natCast, beq_self_eq_true, hX]; (repeat (with_reducible refine And.intro ?_ ?_); focus (first | omega | (intros; simp_all; done) | (intro h; simp only [VB] at h; omega) | (intros; simp_all; omega))); refine hK _ ?_; clear hK K; (repeat (first | refine Run.seq ?_ | refine Run.skip ?_ | refine Run.label ?_ | refine Run.block ?_ | refine Run.unblock ?_))
    (repeat (first | refine Run.seq ?_ | refine Run.skip ?_ | refine Run.label ?_ | refine Run.block ?_ | refine Run.unblock ?_)); refine Run.condW (by simp only [AW1, simprocAttr, Int.toNat_natCast, beq_self_eq_true, hX]; rfl) (by simp only [AW1, simprocAttr, Int.toNat_natCast, beq_self_eq_true, hX]) ?_ ?_
    · intro h
      have h : i < (redL c w).length := by simpa using h
      (repeat (first | refine Run.seq ?_ | refine Run.skip ?_ | refine Run.label ?_ | refine Run.block ?_ | refine Run.unblock ?_)); refine Run.regionW hC (fun K hK => ?_); simp only [AW1, simprocAttr, Int.toNat_natCast, beq_self_eq_true, hX]; (repeat (with_reducible refine And.intro ?_ ?_); focus (first | omega | (intros; simp_all; done) | (intro h; simp only [VB] at h; omega) | (intros; simp_all; omega))); refine hK _ ?_; clear hK K; (repeat (first | refine Run.seq ?_ | refine Run.skip ?_ | refine Run.label ?_ | refine Run.block ?_ | refine Run.unblock ?_))
      (repeat (first | refine Run.seq ?_ | refine Run.skip ?_ | refine Run.label ?_ | refine Run.block ?_ | refine Run.unblock ?_)); refine Run.regionW hC (fun K hK => ?_); simp only [AW1, simprocAttr, Int.toNat_natCast, beq_self_eq_true, hX]; (repeat (with_reducible refine And.intro ?_ ?_); focus (first | omega | (intros; simp_all; done) | (intro h; simp only [VB] at h; omega) | (intros; simp_all; omega)))
      refine FunA.callW hP hT (c_slices_Contains s ((redL c w).getD i 0) (by omega)) (by simp only [AW1, simprocAttr, Int.toNat_natCast, beq_self_eq_true]) ?_
      rintro rs o ⟨rfl, rfl⟩
      (try simp only [AW1, simprocAttr, Int.toNat_natCast, beq_self_eq_true, hX]); (repeat (with_reducible refine And.intro ?_ ?_); focus (first | omega | (intros; simp_all; done) | (intro h; simp only [VB] at h; omega) | (intros; simp_all; omega)))
      (repeat (with_reducible refine And.intro ?_ ?_); focus (first | omega | (intros; simp_all; done) | (intro h; simp only [VB] at h; omega) | (intros; simp_all; omega))); refine hK _ ?_; clear hK K; (repeat (first | refine Run.seq ?_ | refine Run.skip ?_ | refine Run.label ?_ | refine Run.block ?_ | refine Run.unblock ?_))
      (repeat (first | refine Run.seq ?_ | refine Run.skip ?_ | refine Run.label ?_ | refine Run.block ?_ | refine Run.unblock ?_)); refine Run.condW (by simp only [AW1, simprocAttr, Int.toNat_natCast, beq_self_eq_true, hX]; rfl) (by simp only [AW1, simprocAttr, Int.toNat_natCast, beq_self_eq_true, hX]) ?_ ?_
      · intro hx
        have hx : decide ((redL c w).getD i 0 ∈ s) = false := by simpa using hx
        have := all_false (fun x => decide (x ∈ s)) (redL c w) i h hx
        (repeat (first | refine Run.seq ?_ | refine Run.skip ?_ | refine Run.label ?_ | refine Run.block ?_ | refine Run.unblock ?_)); refine Run.regionW hC (fun K hK => ?_); simp only [AW1, simprocAttr, Int.toNat_natCast, beq_self_eq_true, hX]; (repeat (with_reducible refine And.intro ?_ ?_); focus (first | omega | (intros; simp_all; done) | (intro h; simp only [VB] at h; omega) | (intros; simp_all; omega))); refine hK _ ?_; clear hK K; (repeat (first | refine Run.seq ?_ | refine Run.skip ?_ | refine Run.label ?_ | refine Run.block ?_ | refine Run.unblock ?_))
        refine Run.le (Le.cut0 hpin [_] (fr' := [(6, true, .v (.bool (parB c s w)))]) (obs' := []) rfl (by rw [hp, this]; simp only [AW1, simprocAttr, Int.toNat_natCast, beq_self_eq_true]; try simp) rfl) ?_
        refine Run.retW [6] (by decide) (by rw [hfn]; rfl) (by simp only [AW1, simprocAttr, Int.toNat_natCast, beq_self_eq_true, hX]; rfl) (by simp only [AW1, simprocAttr, Int.toNat_natCast, beq_self_eq_true, hX]) (hfin _ _ rfl rfl ?_)
        exact ⟨rfl, rfl⟩
      · intro hx
        have hx : decide ((redL c w).getD i 0 ∈ s) = true := by simpa using hx
        (repeat (first | refine Run.seq ?_ | refine Run.skip ?_ | refine Run.label ?_ | refine Run.block ?_ | refine Run.unblock ?_)); refine Run.regionW hC (fun K hK => ?_); simp (disch := omega) only [wrap_id, AW1, simprocAttr, Int.toNat_natCast, beq_self_eq_true, hX]; (repeat (with_reducible refine And.intro ?_ ?_); focus (first | omega | (intros; simp_all; done) | (intro h; simp only [VB] at h; omega) | (intros; simp_all; omega))); refine hK _ ?_; clear hK K; (repeat (first | refine Run.seq ?_ | refine Run.skip ?_ | refine Run.label ?_ | refine Run.block ?_ | refine Run.unblock ?_))
        refine Run.le ?_ (ih (i + 1) ⟨h, by rw [all_snoc _ _ i h, hall]; exact hx⟩ (by omega))
        exact Le.sub (by simp only [AW1, simprocAttr, Int.toNat_natCast, beq_self_eq_true]) (by simp only [AW1, simprocAttr, Int.toNat_natCast, beq_self_eq_true, Option.some.injEq, Prod.mk.injEq, Sl.v.injEq, AV.int.injEq, AV.own.injEq, AV.bool.injEq]; try (repeat' apply And.intro); all_goals omega)
    · intro h
      have h : i = (redL c w).length := by simp at h; omega
      subst h
      rw [List.take_length] at hall
      refine Run.exit rfl ?_; (repeat (first | refine Run.seq ?_ | refine Run.skip ?_ | refine Run.label ?_ | refine Run.block ?_ | refine Run.unblock ?_))
      (repeat (first | refine Run.seq ?_ | refine Run.skip ?_ | refine Run.label ?_ | refine Run.block ?_ | refine Run.unblock ?_)); refine Run.regionW hC (fun K hK => ?_); simp only [AW1, simprocAttr, Int.toNat_natCast, beq_self_eq_true, hX]; (repeat (with_reducible refine And.intro ?_ ?_); focus (first | omega | (intros; simp_all; done) | (intro h; simp only [VB] at h; omega) | (intros; simp_all; omega))); refine hK _ ?_; clear hK K; (repeat (first | refine Run.seq ?_ | refine Run.skip ?_ | refine Run.label ?_ | refine Run.block ?_ | refine Run.unblock ?_))
      refine Run.le (Le.cut0 hpin [_] (fr' := [(6, true, .v (.bool (parB c s w)))]) (obs' := []) rfl (by rw [hp, hall]; simp only [AW1, simprocAttr, Int.toNat_natCast, beq_self_eq_true]; try simp) rfl) ?_
      refine Run.retW [6] (by decide) (by rw [hfn]; rfl) (by simp only [AW1, simprocAttr, Int.toNat_natCast, beq_self_eq_true, hX]; rfl) (by simp only [AW1, simprocAttr, Int.toNat_natCast, beq_self_eq_true, hX]) (hfin _ _ rfl rfl ?_)
      exact ⟨rfl, rfl⟩
end Go.Proofs.Ytbeeblhmgpgkjaa

/- The weak order on both sides. -/
import Derived.Test.YtdhfonblpbpmmaaWords4
import Derived.Test.YtdhfonblpbpmmaaGrow2
import Derived.Test.YtdhfonblpbpmmaaSets
set_option linter.unusedVariables false
set_option linter.unusedSimpArgs false
namespace Go.Proofs.Ytdhfonblpbpmmaa
open Go Go.Aw Go.Cox

open Classical in
noncomputable def wkB (c : List (List Int)) (u v : List Int) : Bool := wordB c u && wordB c v && decide ((redL c u).length + (redL c (u.reverse ++ v)).length = (redL c v).length)

theorem c_impl_weakBelow (c : List (List Int)) (u v : List Int) (hu : WordP c u) (hv : WordP c v) :
    FunA B 39 [.sl false (.row false) c, .sl false .int u, .sl false .int v] (fun rs o => rs = [.bool (wkB c u v)] ∧ o = []) := by
  obtain ⟨hc, h2, h3⟩ := hu
  obtain ⟨_, h5, h6⟩ := hv
  obtain ⟨a1, a2, _⟩ := red_spec hc h3 (by omega)
  obtain ⟨b1, b2, _⟩ := red_spec hc h6 (by omega)
  have hlw : letters c.length (u.reverse ++ v) := letters_append.2 ⟨letters_reverse h3, h6⟩
  obtain ⟨d1, d2, _⟩ := red_spec hc hlw (by simp; omega)
  simp at d2
  refine FunA.walk B_ok (fn := Try.f39) (fun vs w => Try.call39 vs w) Try.func39 rfl (by rw [Try.ntmps39]; simp) (fun C hC hP hT hΓ hbt hfn hpin hfin => ?_); have hX := BX; rw [← hΓ, ← hbt.1, ← hbt.2] at hX; rw [Try.ntmps39]; simp only [AW7, simprocAttr, hX]
  refine Run.nq ?_; refine Run.regionW hC (fun K hK => ?_); simp only [AW7, simprocAttr, hX]; (repeat (with_reducible refine And.intro ?_ ?_); exact vc0); refine hK _ ?_; clear hK K; refine Run.nq ?_
  refine Run.nq ?_; refine Run.regionW hC (fun K hK => ?_); simp only [AW7, simprocAttr, hX]; (repeat (with_reducible refine And.intro ?_ ?_); exact vc0)
  refine FunA.callW hP hT (c_impl_lengthOf c u hc h3 (by omega)) (by simp only [AW7, simprocAttr]) ?_
  rintro rs o ⟨rfl, rfl⟩
  (try simp only [AW7, simprocAttr, hX]); (repeat (with_reducible refine And.intro ?_ ?_); exact vc0)
  refine FunA.callW hP hT (c_impl_ReverseWord u (by omega)) (by simp only [AW7, simprocAttr]) ?_
  rintro rs o ⟨rfl, rfl⟩
  (try simp only [AW7, simprocAttr, hX]); (repeat (with_reducible refine And.intro ?_ ?_); exact vc0)
  refine FunA.callW hP hT (c_impl_ConcatWords u.reverse v (by simp; omega) (by omega)) (by simp only [AW7, simprocAttr]) ?_
  rintro rs o ⟨nn, rfl, rfl⟩
  (try simp only [AW7, simprocAttr, hX]); (repeat (with_reducible refine And.intro ?_ ?_); exact vc0)
  refine FunA.callW hP hT (c_impl_lengthOf c (u.reverse ++ v) hc hlw (by simp; omega)) (by simp only [AW7, simprocAttr]) ?_
  rintro rs o ⟨rfl, rfl⟩
  simp (disch := omega) only [wrap_id, AW7, simprocAttr, hX]; (repeat (with_reducible refine And.intro ?_ ?_); exact vc0)
  refine FunA.callW hP hT (c_impl_lengthOf c v hc h6 (by omega)) (by simp only [AW7, simprocAttr]) ?_
  rintro rs o ⟨rfl, rfl⟩
  simp (disch := omega) only [wrap_id, AW7, simprocAttr, hX]; (repeat (with_reducible refine And.intro ?_ ?_); exact vc0)
  (repeat (with_reducible refine And.intro ?_ ?_); exact vc0); refine hK _ ?_; clear hK K; refine Run.nq ?_
  refine Run.le (Le.cut0 hpin [_, _] (fr' := [(6, true, .v (.bool (((redL c u).length : Int) + (redL c (u.reverse ++ v)).length == (redL c v).length)))]) (obs' := []) rfl (by simp only [AW7, simprocAttr]; try simp) rfl) ?_
  refine Run.retW [6] (by decide) (by rw [hfn]; rfl) (by simp only [AW7, simprocAttr, hX]; rfl) (by simp only [AW7, simprocAttr, hX]) (hfin _ _ rfl rfl ?_)
  refine ⟨?_, rfl⟩
  have e1 : wordB c u = true := wordB_iff.2 ⟨hc, h2, h3⟩
  have e2 : wordB c v = true := wordB_iff.2 ⟨hc, h5, h6⟩
  unfold wkB
  rw [e1, e2]
  congr 2
  simp only [Bool.true_and]
  rw [Bool.eq_iff_iff]
  simp only [beq_iff_eq, decide_eq_true_eq]
  omega

theorem c_spec_IsWeakBelow (c : List (List Int)) (u v : List Int) (hcl : c.length ≤ 1048576) :
    FunA B 33 [.sl false (.row false) c, .sl false .int u, .sl false .int v] (fun rs o => rs = [.bool (wkB c u v)] ∧ o = []) := by
  refine FunA.walk B_ok (fn := Try.f33) (fun vs w => Try.call33 vs w) Try.func33 rfl (by rw [Try.ntmps33]; simp) (fun C hC hP hT hΓ hbt hfn hpin hfin => ?_); have hX := BX; rw [← hΓ, ← hbt.1, ← hbt.2] at hX; rw [Try.ntmps33]; simp only [AW7, simprocAttr, hX]
  refine Run.nq ?_; refine Run.regionW hC (fun K hK => ?_); simp only [AW7, simprocAttr, hX]; (repeat (with_reducible refine And.intro ?_ ?_); exact vc0); refine hK _ ?_; clear hK K; refine Run.nq ?_
  refine Run.nq ?_; refine Run.regionW hC (fun K hK => ?_); simp only [AW7, simprocAttr, hX]; (repeat (with_reducible refine And.intro ?_ ?_); exact vc0)
  refine FunA.callW hP hT (c_spec_IsWord c u hcl) (by simp only [AW7, simprocAttr]) ?_
  rintro rs o ⟨rfl, rfl⟩
  (try simp only [AW7, simprocAttr, hX]); (repeat (with_reducible refine And.intro ?_ ?_); exact vc0)
  refine .inl (FunA.callG hP hT (c_spec_IsWord c v hcl) (fun _ => rfl) (fun _ => by simp only [AW7, simprocAttr]) ?_)
  (try simp only [AW7, simprocAttr, hX]); (repeat (with_reducible refine And.intro ?_ ?_); exact vc0)
  (repeat (with_reducible refine And.intro ?_ ?_); exact vc0); refine hK _ ?_; clear hK K; refine Run.nq ?_
  refine Run.nq ?_; refine Run.condW (by simp only [AW7, simprocAttr, hX]; rfl) (by simp only [AW7, simprocAttr, hX]) ?_ ?_
  · intro h
    refine Run.nq ?_; refine Run.regionW hC (fun K hK => ?_); simp only [AW7, simprocAttr, hX]; (repeat (with_reducible refine And.intro ?_ ?_); exact vc0); refine hK _ ?_; clear hK K; refine Run.nq ?_
    refine Run.retW [6] (by decide) (by rw [hfn]; rfl) (by simp only [AW7, simprocAttr, hX]; rfl) (by simp only [AW7, simprocAttr, hX]) (hfin _ _ rfl rfl ?_)
    revert h
    cases hu : wordB c u <;> cases hv : wordB c v <;> simp [wkB, hu, hv]
  · intro h
    have hu : wordB c u = true := by revert h; cases hu : wordB c u <;> simp
    have hv : wordB c v = true := by revert h; cases hv : wordB c v <;> simp [hu]
    obtain ⟨hc, h2, h3⟩ := wordB_iff.1 hu
    obtain ⟨_, h5, h6⟩ := wordB_iff.1 hv
    obtain ⟨a1, a2, a3, a4, a5⟩ := red_spec hc h3 (by omega)
    obtain ⟨b1, b2, b3, b4, b5⟩ := red_spec hc h6 (by omega)
    have hlw : letters c.length ((redL c u).reverse ++ redL c v) := letters_append.2 ⟨letters_reverse a1, b1⟩
    obtain ⟨d1, d2, _⟩ := red_spec hc hlw (by simp; omega)
    simp at d2
    have hsame : redL c ((redL c u).reverse ++ redL c v) = redL c (u.reverse ++ v) := weak_same hc a1 h3 a4 b4
    refine Run.nq ?_; refine Run.regionW hC (fun K hK => ?_); simp only [AW7, simprocAttr, hX]; (repeat (with_reducible refine And.intro ?_ ?_); exact vc0)
    refine FunA.callW hP hT (c_spec_l8Normal c u hc h3 (by omega)) (by simp only [AW7, simprocAttr]) ?_
    rintro rs o ⟨rfl, rfl⟩
    (try simp only [AW7, simprocAttr, hX]); (repeat (with_reducible refine And.intro ?_ ?_); exact vc0)
    (repeat (with_reducible refine And.intro ?_ ?_); exact vc0); refine hK _ ?_; clear hK K; refine Run.nq ?_
    refine Run.nq ?_; refine Run.regionW hC (fun K hK => ?_); simp only [AW7, simprocAttr, hX]; (repeat (with_reducible refine And.intro ?_ ?_); exact vc0)
    refine FunA.callW hP hT (c_spec_l8Normal c v hc h6 (by omega)) (by simp only [AW7, simprocAttr]) ?_
    rintro rs o ⟨rfl, rfl⟩
    (try simp only [AW7, simprocAttr, hX]); (repeat (with_reducible refine And.intro ?_ ?_); exact vc0)
    (repeat (with_reducible refine And.intro ?_ ?_); exact vc0); refine hK _ ?_; clear hK K; refine Run.nq ?_
    refine Run.nq ?_; refine Run.regionW hC (fun K hK => ?_); simp only [AW7, simprocAttr, hX]; (repeat (with_reducible refine And.intro ?_ ?_); exact vc0)
    refine FunA.callW hP hT (c_spec_ReverseWord (redL c u) (by omega)) (by simp only [AW7, simprocAttr]) ?_
    rintro rs o ⟨rfl, rfl⟩
    (try simp only [AW7, simprocAttr, hX]); (repeat (with_reducible refine And.intro ?_ ?_); exact vc0)
    refine FunA.callW hP hT (c_spec_ConcatWords (redL c u).reverse (redL c v) (by simp; omega) (by omega)) (by simp only [AW7, simprocAttr]) ?_
    rintro rs o ⟨rfl, rfl⟩
    (try simp only [AW7, simprocAttr, hX]); (repeat (with_reducible refine And.intro ?_ ?_); exact vc0)
    refine FunA.callW hP hT (c_spec_l8Normal c ((redL c u).reverse ++ redL c v) hc hlw (by simp; omega)) (by simp only [AW7, simprocAttr]) ?_
    rintro rs o ⟨rfl, rfl⟩
    rw [hsame]
    rw [hsame] at d2
    simp (disch := omega) only [wrap_id, AW7, simprocAttr, hX]; (repeat (with_reducible refine And.intro ?_ ?_); exact vc0)
    (repeat (with_reducible refine And.intro ?_ ?_); exact vc0); refine hK _ ?_; clear hK K; refine Run.nq ?_
    refine Run.le (Le.cut0 hpin [_, _, _, _, _] (fr' := [(6, true, .v (.bool (((redL c u).length : Int) + (redL c (u.reverse ++ v)).length == (redL c v).length)))]) (obs' := []) rfl (by simp only [AW7, simprocAttr]; try simp) rfl) ?_
    refine Run.retW [6] (by decide) (by rw [hfn]; rfl) (by simp only [AW7, simprocAttr, hX]; rfl) (by simp only [AW7, simprocAttr, hX]) (hfin _ _ rfl rfl ?_)
    refine ⟨?_, rfl⟩
    unfold wkB
    rw [hu, hv]
    congr 2
    simp only [Bool.true_and]
    rw [Bool.eq_iff_iff]
    simp only [beq_iff_eq, decide_eq_true_eq]
    omega

/-- A word of a parabolic subgroup. -/
noncomputable def parB (c : List (List Int)) (s w : List Int) : Bool := wordB c w && isSetB c s && (redL c w).all (fun x => decide (x ∈ s))

theorem all_snoc (p : Int → Bool) (w : List Int) (i : Nat) (h : i < w.length) : (w.take (i + 1)).all p = ((w.take i).all p && p (w.getD i 0)) := by
  rw [← take_snoc 0 w i h]; simp
theorem all_false (p : Int → Bool) (w : List Int) (i : Nat) (h : i < w.length) (hp : p (w.getD i 0) = false) : w.all p = false := by
  cases hh : w.all p with
  | false => rfl
  | true =>
    rw [List.all_eq_true] at hh
    have := hh _ (getD_mem h)
    rw [hp] at this
    exact this.symm

theorem set_len {c : List (List Int)} {s : List Int} (h : setP c.length s) : s.length ≤ c.length := by
  have key : ∀ i, i < s.length → (i : Int) ≤ s.getD i 0 := by
    intro i
    induction i with
    | zero => intro h0; exact (h 0 h0).1
    | succ i ih =>
      intro h1
      have := ih (by omega)
      have := (h (i + 1) h1).2.2 (by omega)
      rw [Nat.add_sub_cancel] at this
      omega
  by_cases h0 : s.length = 0
  · omega
  · have := key (s.length - 1) (by omega)
    have := (h (s.length - 1) (by omega)).2.1
    omega
theorem set_letters {n : Nat} {s : List Int} (h : setP n s) : letters n s := letters_getD.2 fun i hi => ⟨(h i hi).1, (h i hi).2.1⟩

end Go.Proofs.Ytdhfonblpbpmmaa

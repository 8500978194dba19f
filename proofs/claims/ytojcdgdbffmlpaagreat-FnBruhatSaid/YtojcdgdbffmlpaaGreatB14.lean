/- The Bruhat order on both sides. -/
import Derived.Test.YtojcdgdbffmlpaaGreatB12
set_option linter.unusedVariables false
set_option linter.unusedSimpArgs false
namespace Go.Proofs.YtojcdgdbffmlpaaGreat
open Go Go.Aw Go.Cox
theorem l15_cons (c : List (List Int)) (u : List Int) (i : Int) (r : List Int) : l15 c u (i :: r) = if r.length + 1 < u.length then decide (u.length = 0) else if (imageL c u).getD i.toNat 0 < 0 then l15 c (redL c (i :: u)) r else l15 c u r := rfl
theorem tail1 (i : Int) (r : List Int) : List.take ((i :: r).length - 1) (List.drop 1 (i :: r)) = r := by simp
theorem c_spec_l15Below (c : List (List Int)) (hc : CartanP c) : ∀ (v u : List Int), letters c.length v → Red c u → u.length ≤ 30 → v.length ≤ 31 →
    FunA B 107 [.sl false (.row false) c, .sl false .int u, .sl false .int v] (fun rs o => rs = [.bool (l15 c u v)] ∧ o = []) := by
  have hn := hc.2.1
  intro v
  induction v with
  | nil =>
    intro u hv hu hl hvl
    refine FunA.walk B_ok (fn := Tryz.f107) (fun vs w => Tryz.call107 vs w) Tryz.func107 rfl (by rw [Tryz.ntmps107]; simp) (fun C hC hP hT hΓ hbt hfn hpin hfin => ?_); have hX := BX; rw [← hΓ, ← hbt.1, ← hbt.2] at hX; rw [Tryz.ntmps107]; simp only [AW7, simprocAttr, hX]
    refine Run.nq ?_; refine Run.regionW hC (fun K hK => ?_); simp only [AW7, simprocAttr, hX]; (repeat (with_reducible refine And.intro ?_ ?_); exact vc0); refine hK _ ?_; clear hK K; refine Run.nq ?_
    refine Run.nq ?_; refine Run.regionW hC (fun K hK => ?_); simp only [AW7, simprocAttr, hX]; (repeat (with_reducible refine And.intro ?_ ?_); exact vc0); refine hK _ ?_; clear hK K; refine Run.nq ?_
    refine Run.keep [0, 1, 2, 6, 16] ?_; simp only [AK, Nat.reduceBEq]
    refine Run.nq ?_; refine Run.condW (by simp only [AW7, simprocAttr, hX]; rfl) (by simp only [AW7, simprocAttr, hX]) ?_ ?_
    · intro h
      refine Run.nq ?_; refine Run.regionW hC (fun K hK => ?_); simp only [AW7, simprocAttr, hX]; (repeat (with_reducible refine And.intro ?_ ?_); exact vc0); refine hK _ ?_; clear hK K; refine Run.nq ?_
      refine Run.retW [6] (by decide) (by rw [hfn]; rfl) (by simp only [AW7, simprocAttr, hX]; rfl) (by simp only [AW7, simprocAttr, hX]) (hfin _ _ rfl rfl ?_)
      refine ⟨?_, rfl⟩
      show [AV.bool ((u.length : Int) == 0)] = [AV.bool (decide (u.length = 0))]
      congr 2
      rw [Bool.eq_iff_iff]; simp
    · intro h
      simp at h
  | cons i r ih =>
    intro u hv hu hl hvl
    obtain ⟨hi, hr⟩ := letters_cons.1 hv
    have hil := imageL_length c u
    simp only [List.length_cons] at hvl
    have e0 : (i :: r).getD 0 0 = i := rfl
    have e1 : (((i :: r).length : Nat) : Int) = (r.length : Int) + 1 := by simp
    refine FunA.walk B_ok (fn := Tryz.f107) (fun vs w => Tryz.call107 vs w) Tryz.func107 rfl (by rw [Tryz.ntmps107]; simp) (fun C hC hP hT hΓ hbt hfn hpin hfin => ?_); have hX := BX; rw [← hΓ, ← hbt.1, ← hbt.2] at hX; rw [Tryz.ntmps107]; simp only [AW7, simprocAttr, hX]
    refine Run.nq ?_; refine Run.regionW hC (fun K hK => ?_); simp only [AW7, simprocAttr, hX]; (repeat (with_reducible refine And.intro ?_ ?_); exact vc0); refine hK _ ?_; clear hK K; refine Run.nq ?_
    refine Run.nq ?_; refine Run.regionW hC (fun K hK => ?_); simp only [AW7, simprocAttr, hX]; (repeat (with_reducible refine And.intro ?_ ?_); exact vc0); refine hK _ ?_; clear hK K; refine Run.nq ?_
    refine Run.keep [0, 1, 2, 6, 16] ?_; simp only [AK, Nat.reduceBEq]
    have h0 : ((((i :: r).length : Nat) : Int) == 0) = false := by rw [e1]; simp; omega
    rw [h0]
    refine Run.nq ?_; refine Run.condW (by simp only [AW7, simprocAttr, hX]; rfl) (by simp only [AW7, simprocAttr, hX]) ?_ ?_
    · intro h
      have hlen : r.length + 1 < u.length := by
        simp only [cond_false, decide_eq_true_eq, e1] at h
        omega
      refine Run.nq ?_; refine Run.regionW hC (fun K hK => ?_); simp only [AW7, simprocAttr, hX]; (repeat (with_reducible refine And.intro ?_ ?_); exact vc0); refine hK _ ?_; clear hK K; refine Run.nq ?_
      refine Run.retW [6] (by decide) (by rw [hfn]; rfl) (by simp only [AW7, simprocAttr, hX]; rfl) (by simp only [AW7, simprocAttr, hX]) (hfin _ _ rfl rfl ?_)
      refine ⟨?_, rfl⟩
      rw [l15_cons, if_pos hlen]
      congr 2
      rw [Bool.eq_iff_iff]; simp
    · intro h
      have hlen : ¬ r.length + 1 < u.length := by
        simp only [cond_false, decide_eq_false_iff_not, e1] at h
        omega
      refine Run.keep [0, 1, 2, 6] ?_; simp only [AK, Nat.reduceBEq]
      refine Run.nq ?_
      refine Run.regionD hC true [0,1,3,4,5,2,6,7,8] (by kernel_rfl) (fun K hK => ?_)
      simp only [AW7, simprocAttr, hX]
      refine ⟨by simp, ?_⟩
      refine FunA.callD hP hT (c_spec_l8Image c u hc hu.1 (by omega)) (by simp only [AW7, simprocAttr]) ?_
      rintro rs o ⟨rfl, rfl⟩
      simp only [AW7, simprocAttr, hX, e0]
      refine ⟨⟨hi.1, by omega⟩, ?_⟩
      (repeat (with_reducible refine And.intro ?_ ?_); exact vc0); refine hK _ ?_; clear hK K; refine Run.nq ?_
      refine Run.le (Le.cut0 hpin [_] (fr' := [(0, true, .v (.sl false (.row false) c)), (1, true, .v (.sl false .int u)), (2, true, .v (.sl false .int (i :: r))), (6, true, .v (.bool false)), (28, true, .v (.bool (decide ((imageL c u).getD i.toNat 0 < 0))))]) (obs' := []) rfl (by simp only [AW7, simprocAttr]; try simp) rfl) ?_
      refine Run.nq ?_; refine Run.condW (by simp only [AW7, simprocAttr, hX]; rfl) (by simp only [AW7, simprocAttr, hX]) ?_ ?_
      · intro hx
        have hx : (imageL c u).getD i.toNat 0 < 0 := by simpa using hx
        obtain ⟨M, m1, m2⟩ := hu.2.down hc hi hx
        obtain ⟨k1, k2, k3⟩ := red_far hc (w := i :: u) (L := M) m2 (by omega)
        have k4 : Red c (redL c (i :: u)) := ⟨k2, by rw [k1, k3]; exact m2⟩
        refine Run.nq ?_; refine Run.regionW hC (fun K hK => ?_); simp only [AW7, simprocAttr, hX]; (repeat (with_reducible refine And.intro ?_ ?_); exact vc0)
        simp only [e0]
        refine FunA.callW hP hT (c_spec_ConcatWords [i] u (by simp) (by omega)) (by simp only [AW7, simprocAttr]) ?_
        rintro rs o ⟨rfl, rfl⟩
        (try simp only [AW7, simprocAttr, hX]); (repeat (with_reducible refine And.intro ?_ ?_); exact vc0)
        rw [show ([i] ++ u) = i :: u from rfl]
        refine FunA.callW hP hT (c_spec_l8Normal c (i :: u) hc (letters_cons.2 ⟨hi, hu.1⟩) (by simp; omega)) (by simp only [AW7, simprocAttr]) ?_
        rintro rs o ⟨rfl, rfl⟩
        (try simp only [AW7, simprocAttr, hX]); (repeat (with_reducible refine And.intro ?_ ?_); exact vc0)
        (repeat (with_reducible refine And.intro ?_ ?_); exact vc0); refine hK _ ?_; clear hK K; refine Run.nq ?_
        refine Run.le (Le.letgo 2 [(0, true, .sl false (.row false) c), (1, true, .sl true .int (redL c (i :: u))), (2, true, .sl false .int (i :: r))] rfl ⟨.inl rfl, .inr ⟨rfl, rfl⟩, .inl rfl, trivial⟩) ?_
        simp only [frV_cons, frV_nil]
        refine Run.le (Le.cut0 hpin _ (fr' := [(0, true, .v (.sl false (.row false) c)), (1, true, .v (.sl true .int (redL c (i :: u)))), (2, true, .v (.sl false .int (i :: r)))]) (obs' := []) (List.nil_append _).symm (by simp only [AW7, simprocAttr]; try simp) rfl) ?_
        refine Run.nq ?_; refine Run.regionW hC (fun K hK => ?_); simp only [AW7, simprocAttr, hX]; (repeat (with_reducible refine And.intro ?_ ?_); exact vc0)
        simp only [tail1]
        refine FunA.callW hP hT (ih (redL c (i :: u)) hr k4 (by omega) (by omega)) (by simp only [AW7, simprocAttr]) ?_
        rintro rs o ⟨rfl, rfl⟩
        (try simp only [AW7, simprocAttr, hX]); (repeat (with_reducible refine And.intro ?_ ?_); exact vc0)
        (repeat (with_reducible refine And.intro ?_ ?_); exact vc0); refine hK _ ?_; clear hK K; refine Run.nq ?_
        refine Run.retW [6] (by decide) (by rw [hfn]; rfl) (by simp only [AW7, simprocAttr, hX]; rfl) (by simp only [AW7, simprocAttr, hX]) (hfin _ _ rfl rfl ?_)
        refine ⟨?_, rfl⟩
        rw [l15_cons, if_neg hlen, if_pos hx]
      · intro hx
        have hx : ¬ (imageL c u).getD i.toNat 0 < 0 := by simpa using hx
        refine Run.nq ?_; refine Run.regionW hC (fun K hK => ?_); simp only [AW7, simprocAttr, hX]; (repeat (with_reducible refine And.intro ?_ ?_); exact vc0)
        simp only [tail1]
        refine FunA.callW hP hT (ih u hr hu hl (by omega)) (by simp only [AW7, simprocAttr]) ?_
        rintro rs o ⟨rfl, rfl⟩
        (try simp only [AW7, simprocAttr, hX]); (repeat (with_reducible refine And.intro ?_ ?_); exact vc0)
        (repeat (with_reducible refine And.intro ?_ ?_); exact vc0); refine hK _ ?_; clear hK K; refine Run.nq ?_
        refine Run.retW [6] (by decide) (by rw [hfn]; rfl) (by simp only [AW7, simprocAttr, hX]; rfl) (by simp only [AW7, simprocAttr, hX]) (hfin _ _ rfl rfl ?_)
        refine ⟨?_, rfl⟩
        rw [l15_cons, if_neg hlen, if_neg hx]
noncomputable def brB (c : List (List Int)) (u v : List Int) : Bool := wordB c u && wordB c v && belB c (imageL c u) (redL c v)
theorem l15_br {c : List (List Int)} {u v : List Int} (hu : WordP c u) (hv : WordP c v) : l15 c (redL c u) (redL c v) = belB c (imageL c u) (redL c v) := by
  obtain ⟨hc, h2, h3⟩ := hu
  obtain ⟨_, h5, h6⟩ := hv
  obtain ⟨a1, a2, a3, a4, a5⟩ := red_spec hc h3 (by omega)
  obtain ⟨b1, b2, b3, b4, b5⟩ := red_spec hc h6 (by omega)
  rw [l15_bel hc (redL c v) b1 (red_Red hc h3 (by omega)) (by omega), a4]
theorem c_spec_IsBruhatBelow (c : List (List Int)) (u v : List Int) (hcl : c.length ≤ 1048576) :
    FunA B 10 [.sl false (.row false) c, .sl false .int u, .sl false .int v] (fun rs o => rs = [.bool (brB c u v)] ∧ o = []) := by
  refine FunA.walk B_ok (fn := Tryz.f10) (fun vs w => Tryz.call10 vs w) Tryz.func10 rfl (by rw [Tryz.ntmps10]; simp) (fun C hC hP hT hΓ hbt hfn hpin hfin => ?_); have hX := BX; rw [← hΓ, ← hbt.1, ← hbt.2] at hX; rw [Tryz.ntmps10]; simp only [AW7, simprocAttr, hX]
  refine Run.nq ?_; refine Run.regionW hC (fun K hK => ?_); simp only [AW7, simprocAttr, hX]; (repeat (with_reducible refine And.intro ?_ ?_); exact vc0); refine hK _ ?_; clear hK K; refine Run.nq ?_
  refine Run.nq ?_; refine Run.regionW hC (fun K hK => ?_); simp only [AW7, simprocAttr, hX]; (repeat (with_reducible refine And.intro ?_ ?_); exact vc0)
  refine FunA.callW hP hT (c_spec_IsWord c u hcl) (by simp only [AW7, simprocAttr]) ?_
  rintro rs o ⟨rfl, rfl⟩
  cases hu : wordB c u with
  | false =>
    (try simp only [AW7, simprocAttr, hX]); (repeat (with_reducible refine And.intro ?_ ?_); exact vc0)
    refine .inl (CallG.off (.bool false) ?_)
    (try simp only [AW7, simprocAttr, hX]); (repeat (with_reducible refine And.intro ?_ ?_); exact vc0)
    refine .inl (CallG.off .junk ?_)
    (try simp only [AW7, simprocAttr, hX]); (repeat (with_reducible refine And.intro ?_ ?_); exact vc0)
    refine .inl (CallG.off .junk ?_)
    (try simp only [AW7, simprocAttr, hX]); (repeat (with_reducible refine And.intro ?_ ?_); exact vc0)
    refine .inl (CallG.off (.bool false) ?_)
    (try simp only [AW7, simprocAttr, hX]); (repeat (with_reducible refine And.intro ?_ ?_); exact vc0)
    (repeat (with_reducible refine And.intro ?_ ?_); exact vc0); refine hK _ ?_; clear hK K; refine Run.nq ?_
    refine Run.retW [6] (by decide) (by rw [hfn]; rfl) (by simp only [AW7, simprocAttr, hX]; rfl) (by simp only [AW7, simprocAttr, hX]) (hfin _ _ rfl rfl ?_)
    simp [brB, hu]
  | true =>
    (try simp only [AW7, simprocAttr, hX]); (repeat (with_reducible refine And.intro ?_ ?_); exact vc0)
    refine .inl (FunA.callG hP hT (c_spec_IsWord c v hcl) (fun _ => rfl) (fun _ => by simp only [AW7, simprocAttr]) ?_)
    cases hv : wordB c v with
    | false =>
      (try simp only [AW7, simprocAttr, hX]); (repeat (with_reducible refine And.intro ?_ ?_); exact vc0)
      refine .inl (CallG.off .junk ?_)
      (try simp only [AW7, simprocAttr, hX]); (repeat (with_reducible refine And.intro ?_ ?_); exact vc0)
      refine .inl (CallG.off .junk ?_)
      (try simp only [AW7, simprocAttr, hX]); (repeat (with_reducible refine And.intro ?_ ?_); exact vc0)
      refine .inl (CallG.off (.bool false) ?_)
      (try simp only [AW7, simprocAttr, hX]); (repeat (with_reducible refine And.intro ?_ ?_); exact vc0)
      (repeat (with_reducible refine And.intro ?_ ?_); exact vc0); refine hK _ ?_; clear hK K; refine Run.nq ?_
      refine Run.retW [6] (by decide) (by rw [hfn]; rfl) (by simp only [AW7, simprocAttr, hX]; rfl) (by simp only [AW7, simprocAttr, hX]) (hfin _ _ rfl rfl ?_)
      simp [brB, hu, hv]
    | true =>
      obtain ⟨hc, h2, h3⟩ := wordB_iff.1 hu
      obtain ⟨_, h5, h6⟩ := wordB_iff.1 hv
      obtain ⟨a1, a2, a3, a4, a5⟩ := red_spec hc h3 (by omega)
      obtain ⟨b1, b2, b3, b4, b5⟩ := red_spec hc h6 (by omega)
      (try simp only [AW7, simprocAttr, hX]); (repeat (with_reducible refine And.intro ?_ ?_); exact vc0)
      refine .inl (FunA.callG hP hT (FunA.frozen rfl (c_spec_l8Normal c u hc h3 (by omega))) (fun _ => rfl) (fun _ => by simp only [AW7, simprocAttr]) ?_)
      (try simp only [AW7, simprocAttr, hX]); (repeat (with_reducible refine And.intro ?_ ?_); exact vc0)
      refine .inl (FunA.callG hP hT (FunA.frozen rfl (c_spec_l8Normal c v hc h6 (by omega))) (fun _ => rfl) (fun _ => by simp only [AW7, simprocAttr]) ?_)
      (try simp only [AW7, simprocAttr, hX]); (repeat (with_reducible refine And.intro ?_ ?_); exact vc0)
      refine .inl (FunA.callG hP hT (c_spec_l15Below c hc (redL c v) (redL c u) b1 (red_Red hc h3 (by omega)) (by omega) (by omega)) (fun _ => rfl) (fun _ => by simp only [AW7, simprocAttr]) ?_)
      (try simp only [AW7, simprocAttr, hX]); (repeat (with_reducible refine And.intro ?_ ?_); exact vc0)
      (repeat (with_reducible refine And.intro ?_ ?_); exact vc0); refine hK _ ?_; clear hK K; refine Run.nq ?_
      refine Run.retW [6] (by decide) (by rw [hfn]; rfl) (by simp only [AW7, simprocAttr, hX]; rfl) (by simp only [AW7, simprocAttr, hX]) (hfin _ _ rfl rfl ?_)
      simp [brB, hu, hv, l15_br ⟨hc, h2, h3⟩ ⟨hc, h5, h6⟩]
theorem belV_snoc (c : List (List Int)) : ∀ (w x : List Int) (i : Int), belV c x (w ++ [i]) = if (belV c x w).getD i.toNat 0 < 0 then reflL c i (belV c x w) else belV c x w
  | [], x, i => rfl
  | j :: w, x, i => by
    simp only [List.cons_append, belV]
    split <;> exact belV_snoc c w _ i
theorem subL_snoc (c : List (List Int)) : ∀ (w x : List Int) (k : Int) (i : Int), subL c x (w ++ [i]) k = if (belV c x w).getD i.toNat 0 < 0 then subL c x w k ++ [k + w.length] else subL c x w k
  | [], x, k, i => by simp [subL, belV]
  | j :: w, x, k, i => by
    simp only [List.cons_append, subL, belV]
    have e : k + ((j :: w).length : Nat) = k + 1 + (w.length : Int) := by simp; omega
    split
    · rw [subL_snoc c w _ (k + 1) i, e]
      split <;> rfl
    · rw [subL_snoc c w _ (k + 1) i, e]
theorem subL_le (c : List (List Int)) : ∀ (w x : List Int) (k : Int), (subL c x w k).length ≤ w.length
  | [], x, k => by simp [subL]
  | j :: w, x, k => by
    simp only [subL]
    split
    · have := subL_le c w (reflL c j x) (k + 1); simp; omega
    · have := subL_le c w x (k + 1); simp; omega
theorem belV_length (c : List (List Int)) : ∀ (w x : List Int), (belV c x w).length = x.length
  | [], x => rfl
  | j :: w, x => by
    simp only [belV]
    split
    · rw [belV_length c w, reflL_length]
    · exact belV_length c w x
theorem bel_bd {c : List (List Int)} (hc : CartanP c) : ∀ (w : List Int) {x : List Int}, letters c.length w → (∃ q, letters c.length q ∧ q.length + w.length ≤ 31 ∧ x = imageL c q) → Bd 9223372036854775807 (belV c x w)
  | [], x, _, ⟨q, h1, h2, h3⟩ => by
    simp only [belV]
    rw [h3]
    exact (image_bd hc h1 (by simp at h2; omega)).mono (by decide)
  | j :: w, x, hw, ⟨q, h1, h2, h3⟩ => by
    obtain ⟨hj, hw⟩ := letters_cons.1 hw
    simp only [List.length_cons] at h2
    simp only [belV]
    split
    · exact bel_bd hc w hw ⟨j :: q, letters_cons.2 ⟨hj, h1⟩, by simp; omega, by rw [h3]; rfl⟩
    · exact bel_bd hc w hw ⟨q, h1, by omega, h3⟩
theorem c_impl_subword (c : List (List Int)) (x w : List Int) (hc : CartanP c) (hx : x.length = c.length) (hw : letters c.length w) (hl : w.length ≤ 31) (hB : ∀ m, Bd 9223372036854775807 (belV c x (w.take m))) :
    FunA B 111 [.sl false (.row false) c, .sl false .int x, .sl false .int w] (fun rs o => rs = [.own 0 0, .bool (belB c x w)] ∧ o = [.arr .int (subL c x w 0) 0 true]) := by
  have hn := hc.2.1
  refine FunA.walk B_ok (fn := Tryz.f111) (fun vs w => Tryz.call111 vs w) Tryz.func111 rfl (by rw [Tryz.ntmps111]; simp) (fun C hC hP hT hΓ hbt hfn hpin hfin => ?_); have hX := BX; rw [← hΓ, ← hbt.1, ← hbt.2] at hX; rw [Tryz.ntmps111]; simp only [AW7, simprocAttr, hX]
  refine Run.nq ?_; refine Run.regionW hC (fun K hK => ?_); simp only [AW7, simprocAttr, hX]; (repeat (with_reducible refine And.intro ?_ ?_); exact vc0); refine hK _ ?_; clear hK K; refine Run.nq ?_
  refine Run.nq ?_; refine Run.regionW hC (fun K hK => ?_); simp only [AW7, simprocAttr, hX]; (repeat (with_reducible refine And.intro ?_ ?_); exact vc0); refine hK _ ?_; clear hK K; refine Run.nq ?_
  refine Run.nq ?_; refine Run.regionW hC (fun K hK => ?_); simp only [AW7, simprocAttr, hX]; (repeat (with_reducible refine And.intro ?_ ?_); exact vc0); refine hK _ ?_; clear hK K; refine Run.nq ?_
  refine Run.nq ?_; refine Run.regionW hC (fun K hK => ?_); simp only [AW7, simprocAttr, hX]; (repeat (with_reducible refine And.intro ?_ ?_); exact vc0); refine hK _ ?_; clear hK K; refine Run.nq ?_
  refine Run.le (Le.re (obs' := [.arr .int x 0 true, .arr .int [] 0 true]) hpin [0, 1] [(0, true, .sl false (.row false) c), (1, true, .own 0 0), (6, true, .nils), (7, true, .bool false), (8, true, .own 1 0), (15, true, .sl false .int w), (16, true, .int .i64 w.length), (17, true, .int .i64 0)] rfl (by simp [leOs, leO_arr, oAt]) (by refine ⟨⟨_, rfl, ?_⟩, ⟨_, rfl, ?_⟩, ⟨_, rfl, ?_⟩, ⟨_, rfl, ?_⟩, ⟨_, rfl, ?_⟩, ⟨_, rfl, ?_⟩, ⟨_, rfl, ?_⟩, ⟨_, rfl, ?_⟩, trivial⟩ <;> simp [leAV, oAt, genO])) ?_
  simp only [frV_cons, frV_nil]
  refine Run.loopI (X := Nat × Nat) (fun m => ⟨40, [(0, true, .v (.sl false (.row false) c)), (1, true, .v (.own 0 0)), (6, true, .v .nils), (7, true, .v (.bool false)), (8, true, .v (.own 1 m.2)), (15, true, .v (.sl false .int w)), (16, true, .v (.int .i64 w.length)), (17, true, .v (.int .i64 m.1))], [.arr .int (belV c x (w.take m.1)) 0 true, .arr .int (subL c x (w.take m.1) 0) m.2 true]⟩) (fun m => m.1 ≤ w.length) (fun m => w.length - m.1) (0, 0) (Nat.zero_le _) ?_ ?_
  · exact Le.sub (by rfl) (by simp only [AW7, simprocAttr, hX]; try simp)
  rintro ⟨m, g⟩ hm ih
  simp only [] at hm ⊢
  have hbl := belV_length c (w.take m) x
  have hsl := subL_le c (w.take m) x 0
  simp only [List.length_take] at hsl
  refine Run.nq ?_; refine Run.regionW hC (fun K hK => ?_); simp only [AW7, simprocAttr, hX]; (repeat (with_reducible refine And.intro ?_ ?_); exact vc0); refine hK _ ?_; clear hK K; refine Run.nq ?_
  refine Run.nq ?_; refine Run.condW (by simp only [AW7, simprocAttr, hX]; rfl) (by simp only [AW7, simprocAttr, hX]) ?_ ?_
  · intro h
    have h : m < w.length := by simpa using h
    have hlet := letters_getD.1 hw m h
    have hsn := belV_snoc c (w.take m) x (w.getD m 0)
    have hss := subL_snoc c (w.take m) x 0 (w.getD m 0)
    rw [take_snoc 0 w m h] at hsn hss
    have e2 : (0 : Int) + ((w.take m).length : Nat) = (m : Int) := by simp; omega
    rw [e2] at hss
    refine Run.nq ?_; refine Run.regionW hC (fun K hK => ?_); simp only [AW7, simprocAttr, hX]; (repeat (with_reducible refine And.intro ?_ ?_); exact vc0); refine hK _ ?_; clear hK K; refine Run.nq ?_
    refine Run.nq ?_; refine Run.regionW hC (fun K hK => ?_); simp only [AW7, simprocAttr, hX]; (repeat (with_reducible refine And.intro ?_ ?_); exact vc0); refine hK _ ?_; clear hK K; refine Run.nq ?_
    refine Run.nq ?_; refine Run.condW (by simp only [AW7, simprocAttr, hX]; rfl) (by simp only [AW7, simprocAttr, hX]) ?_ ?_
    · intro hx2
      have hx2 : (belV c x (w.take m)).getD (w.getD m 0).toNat 0 < 0 := by simpa using hx2
      rw [if_pos hx2] at hsn hss
      have hB' := hB (m + 1)
      rw [hsn] at hB'
      refine Run.nq ?_; refine Run.regionW hC (fun K hK => ?_); simp only [AW7, simprocAttr, hX]; (repeat (with_reducible refine And.intro ?_ ?_); exact vc0)
      refine FunM.call hP hT (c_impl_reflected c (w.getD m 0) (belV c x (w.take m)) hc (by omega) hlet hB') 0 0 (by simp only [AW7, simprocAttr]; rfl) (by simp) rfl (by simp only [AW7, simprocAttr]; try simp) ?_
      rintro rs o' obs' ⟨rfl, hh⟩
      obtain ⟨rfl, rfl⟩ := List.cons.inj hh
      (try simp only [AW7, simprocAttr, hX]); (repeat (with_reducible refine And.intro ?_ ?_); exact vc0)
      (repeat (with_reducible refine And.intro ?_ ?_); exact vc0); refine hK _ ?_; clear hK K; refine Run.nq ?_
      refine Run.nq ?_; refine Run.regionW hC (fun K hK => ?_); simp only [AW7, simprocAttr, hX]; (repeat (with_reducible refine And.intro ?_ ?_); exact vc0); refine hK _ ?_; clear hK K; refine Run.nq ?_
      refine Run.nq ?_; refine Run.regionW hC (fun K hK => ?_); simp (disch := omega) only [wrap_id, AW7, simprocAttr, hX]; (repeat (with_reducible refine And.intro ?_ ?_); exact vc0); refine hK _ ?_; clear hK K; refine Run.nq ?_
      refine Run.le ?_ (ih (m + 1, g + 1) h (by simp only []; omega))
      exact Le.cut0 hpin [_] (by rw [hsn, hss]; rfl) (by simp only [AW7, simprocAttr]; try simp) rfl
    · intro hx2
      have hx2 : ¬ (belV c x (w.take m)).getD (w.getD m 0).toNat 0 < 0 := by simpa using hx2
      rw [if_neg hx2] at hsn hss
      refine Run.nq ?_; refine Run.regionW hC (fun K hK => ?_); simp (disch := omega) only [wrap_id, AW7, simprocAttr, hX]; (repeat (with_reducible refine And.intro ?_ ?_); exact vc0); refine hK _ ?_; clear hK K; refine Run.nq ?_
      refine Run.le ?_ (ih (m + 1, g) h (by simp only []; omega))
      exact Le.sub (by rw [hsn, hss]) (by simp only [AW7, simprocAttr]; try simp)
  · intro h
    have h : m = w.length := by simp at h; omega
    subst h
    rw [List.take_length] at hbl ⊢
    refine Run.exit rfl ?_; refine Run.nq ?_
    refine Run.nq ?_; refine Run.regionW hC (fun K hK => ?_); simp only [AW7, simprocAttr, hX]; (repeat (with_reducible refine And.intro ?_ ?_); exact vc0)
    refine FunA.callW hP hT (c_impl_firstDescent (belV c x w) (by omega)) (by simp only [AW7, simprocAttr]) ?_
    rintro rs o ⟨rfl, rfl⟩
    (try simp only [AW7, simprocAttr, hX]); (repeat (with_reducible refine And.intro ?_ ?_); exact vc0)
    (repeat (with_reducible refine And.intro ?_ ?_); exact vc0); refine hK _ ?_; clear hK K; refine Run.nq ?_
    refine Run.le (Le.re (obs' := [.arr .int (subL c x w 0) 0 true]) hpin [1] [(6, true, .own 0 0), (7, true, .bool (belB c x w))] rfl (by simp [leOs, leO_arr, oAt]) (by refine ⟨⟨_, rfl, ?_⟩, ⟨_, rfl, ?_⟩, trivial⟩ <;> simp [leAV, oAt, genO, belB])) ?_
    simp only [frV_cons, frV_nil]
    refine Run.retW [6, 7] (by decide) (by rw [hfn]; rfl) (by simp only [AW7, simprocAttr, hX]; rfl) (by simp only [AW7, simprocAttr, hX]) (hfin _ _ rfl rfl ?_)
    exact ⟨rfl, rfl⟩
theorem sub_hB {c : List (List Int)} (hc : CartanP c) {u w : List Int} (hu : letters c.length u) (hw : letters c.length w) (hl : u.length + w.length ≤ 31) : ∀ m, Bd 9223372036854775807 (belV c (imageL c u) (w.take m)) :=
  fun m => bel_bd hc (w.take m) (letters_take hw m) ⟨u, hu, by simp; omega, rfl⟩
theorem c_impl_below (c : List (List Int)) (u v : List Int) (hu : WordP c u) (hv : WordP c v) :
    FunA B 106 [.sl false (.row false) c, .sl false .int u, .sl false .int v] (fun rs o => rs = [.bool (belB c (imageL c u) (redL c v))] ∧ o = []) := by
  obtain ⟨hc, h2, h3⟩ := hu
  obtain ⟨_, h5, h6⟩ := hv
  obtain ⟨b1, b2, b3, b4, b5⟩ := red_spec hc h6 (by omega)
  refine FunA.walk B_ok (fn := Tryz.f106) (fun vs w => Tryz.call106 vs w) Tryz.func106 rfl (by rw [Tryz.ntmps106]; simp) (fun C hC hP hT hΓ hbt hfn hpin hfin => ?_); have hX := BX; rw [← hΓ, ← hbt.1, ← hbt.2] at hX; rw [Tryz.ntmps106]; simp only [AW7, simprocAttr, hX]
  refine Run.nq ?_; refine Run.regionW hC (fun K hK => ?_); simp only [AW7, simprocAttr, hX]; (repeat (with_reducible refine And.intro ?_ ?_); exact vc0); refine hK _ ?_; clear hK K; refine Run.nq ?_
  refine Run.nq ?_; refine Run.regionW hC (fun K hK => ?_); simp only [AW7, simprocAttr, hX]; (repeat (with_reducible refine And.intro ?_ ?_); exact vc0)
  refine FunA.callW hP hT (c_impl_image c u hc h3 (by omega)) (by simp only [AW7, simprocAttr]) ?_
  rintro rs o ⟨rfl, rfl⟩
  (try simp only [AW7, simprocAttr, hX]); (repeat (with_reducible refine And.intro ?_ ?_); exact vc0)
  refine FunA.callW hP hT (c_impl_reduced c v hc h6 (by omega)) (by simp only [AW7, simprocAttr]) ?_
  rintro rs o ⟨rfl, rfl⟩
  (try simp only [AW7, simprocAttr, hX]); (repeat (with_reducible refine And.intro ?_ ?_); exact vc0)
  refine FunA.callW hP hT (c_impl_subword c (imageL c u) (redL c v) hc (imageL_length ..) b1 (by omega) (sub_hB hc h3 b1 (by omega))) (by simp only [AW7, simprocAttr]) ?_
  rintro rs o ⟨rfl, rfl⟩
  (try simp only [AW7, simprocAttr, hX]); (repeat (with_reducible refine And.intro ?_ ?_); exact vc0)
  (repeat (with_reducible refine And.intro ?_ ?_); exact vc0); refine hK _ ?_; clear hK K; refine Run.nq ?_
  refine Run.nq ?_; refine Run.regionW hC (fun K hK => ?_); simp only [AW7, simprocAttr, hX]; (repeat (with_reducible refine And.intro ?_ ?_); exact vc0); refine hK _ ?_; clear hK K; refine Run.nq ?_
  refine Run.le (Le.cut0 hpin _ (fr' := [(6, true, .v (.bool (belB c (imageL c u) (redL c v))))]) (obs' := []) (List.nil_append _).symm (by simp only [AW7, simprocAttr]; try simp) rfl) ?_
  refine Run.retW [6] (by decide) (by rw [hfn]; rfl) (by simp only [AW7, simprocAttr, hX]; rfl) (by simp only [AW7, simprocAttr, hX]) (hfin _ _ rfl rfl ?_)
  exact ⟨rfl, rfl⟩
theorem c_impl_IsBruhatBelow (c : List (List Int)) (u v : List Int) (hcl : c.length ≤ 1048576) :
    FunA B 9 [.sl false (.row false) c, .sl false .int u, .sl false .int v] (fun rs o => rs = [.bool (brB c u v)] ∧ o = []) := by
  refine FunA.walk B_ok (fn := Tryz.f9) (fun vs w => Tryz.call9 vs w) Tryz.func9 rfl (by rw [Tryz.ntmps9]; simp) (fun C hC hP hT hΓ hbt hfn hpin hfin => ?_); have hX := BX; rw [← hΓ, ← hbt.1, ← hbt.2] at hX; rw [Tryz.ntmps9]; simp only [AW7, simprocAttr, hX]
  refine Run.nq ?_; refine Run.regionW hC (fun K hK => ?_); simp only [AW7, simprocAttr, hX]; (repeat (with_reducible refine And.intro ?_ ?_); exact vc0); refine hK _ ?_; clear hK K; refine Run.nq ?_
  refine Run.nq ?_; refine Run.regionW hC (fun K hK => ?_); simp only [AW7, simprocAttr, hX]; (repeat (with_reducible refine And.intro ?_ ?_); exact vc0)
  refine FunA.callW hP hT (c_impl_IsWord c u) (by simp only [AW7, simprocAttr]) ?_
  rintro rs o ⟨rfl, rfl⟩
  cases hu : wordB c u with
  | false =>
    (try simp only [AW7, simprocAttr, hX]); (repeat (with_reducible refine And.intro ?_ ?_); exact vc0)
    refine .inl (CallG.off (.bool false) ?_)
    (try simp only [AW7, simprocAttr, hX]); (repeat (with_reducible refine And.intro ?_ ?_); exact vc0)
    refine .inl (CallG.off (.bool false) ?_)
    (try simp only [AW7, simprocAttr, hX]); (repeat (with_reducible refine And.intro ?_ ?_); exact vc0)
    (repeat (with_reducible refine And.intro ?_ ?_); exact vc0); refine hK _ ?_; clear hK K; refine Run.nq ?_
    refine Run.retW [6] (by decide) (by rw [hfn]; rfl) (by simp only [AW7, simprocAttr, hX]; rfl) (by simp only [AW7, simprocAttr, hX]) (hfin _ _ rfl rfl ?_)
    simp [brB, hu]
  | true =>
    (try simp only [AW7, simprocAttr, hX]); (repeat (with_reducible refine And.intro ?_ ?_); exact vc0)
    refine .inl (FunA.callG hP hT (c_impl_IsWord c v) (fun _ => rfl) (fun _ => by simp only [AW7, simprocAttr]) ?_)
    cases hv : wordB c v with
    | false =>
      (try simp only [AW7, simprocAttr, hX]); (repeat (with_reducible refine And.intro ?_ ?_); exact vc0)
      refine .inl (CallG.off (.bool false) ?_)
      (try simp only [AW7, simprocAttr, hX]); (repeat (with_reducible refine And.intro ?_ ?_); exact vc0)
      (repeat (with_reducible refine And.intro ?_ ?_); exact vc0); refine hK _ ?_; clear hK K; refine Run.nq ?_
      refine Run.retW [6] (by decide) (by rw [hfn]; rfl) (by simp only [AW7, simprocAttr, hX]; rfl) (by simp only [AW7, simprocAttr, hX]) (hfin _ _ rfl rfl ?_)
      simp [brB, hu, hv]
    | true =>
      (try simp only [AW7, simprocAttr, hX]); (repeat (with_reducible refine And.intro ?_ ?_); exact vc0)
      refine .inl (FunA.callG hP hT (c_impl_below c u v (wordB_iff.1 hu) (wordB_iff.1 hv)) (fun _ => rfl) (fun _ => by simp only [AW7, simprocAttr]) ?_)
      (try simp only [AW7, simprocAttr, hX]); (repeat (with_reducible refine And.intro ?_ ?_); exact vc0)
      (repeat (with_reducible refine And.intro ?_ ?_); exact vc0); refine hK _ ?_; clear hK K; refine Run.nq ?_
      refine Run.retW [6] (by decide) (by rw [hfn]; rfl) (by simp only [AW7, simprocAttr, hX]; rfl) (by simp only [AW7, simprocAttr, hX]) (hfin _ _ rfl rfl ?_)
      simp [brB, hu, hv]
end Go.Proofs.YtojcdgdbffmlpaaGreat
namespace Go.Proofs.YtojcdgdbffmlpaaGreat
open Go Go.Aw
theorem c_big (code : List Int) : FunA B 7 [.sl false .byte code] (fun rs o => rs = [.bool (decide (1048576 < code.length))] ∧ o = []) := by
  refine FunA.walk B_ok (fn := Tryz.f7) (fun vs w => Tryz.call7 vs w) Tryz.func7 rfl (by rw [Tryz.ntmps7]; simp) (fun C hC hP hT hΓ hbt hfn hpin hfin => ?_); have hX := BX; rw [← hΓ, ← hbt.1, ← hbt.2] at hX; rw [Tryz.ntmps7]; simp only [AW7, simprocAttr, hX]
  refine Run.nq ?_; refine Run.regionW hC (fun K hK => ?_); simp only [AW7, simprocAttr, hX]; (repeat (with_reducible refine And.intro ?_ ?_); exact vc0); refine hK _ ?_; clear hK K; refine Run.nq ?_
  refine Run.nq ?_; refine Run.regionW hC (fun K hK => ?_); simp only [AW7, simprocAttr, hX]; (repeat (with_reducible refine And.intro ?_ ?_); exact vc0); refine hK _ ?_; clear hK K; refine Run.nq ?_
  refine Run.retW [2] (by decide) (by rw [hfn]; rfl) (by simp only [AW7, simprocAttr, hX]; rfl) (by simp only [AW7, simprocAttr, hX]) (hfin _ _ rfl rfl ?_)
  have : decide ((1048576 : Int) < (code.length : Int)) = decide (1048576 < code.length) := by
    by_cases h : 1048576 < code.length
    · rw [decide_eq_true h, decide_eq_true]; omega
    · rw [decide_eq_false h, decide_eq_false]; omega
  first | exact ⟨by rw [this], rfl⟩ | simpa using this
theorem c_sameInts (p q : List Int) (hp : p.length ≤ 4503599627370496) : FunA B 14 [.sl false .int p, .sl false .int q] (fun rs o => rs = [.bool (p == q)] ∧ o = []) := by
  refine FunA.walk B_ok (fn := Tryz.f14) (fun vs w => Tryz.call14 vs w) Tryz.func14 rfl (by rw [Tryz.ntmps14]; simp) (fun C hC hP hT hΓ hbt hfn hpin hfin => ?_); have hX := BX; rw [← hΓ, ← hbt.1, ← hbt.2] at hX; rw [Tryz.ntmps14]; simp only [AW7, simprocAttr, hX]
  refine Run.nq ?_; refine Run.regionW hC (fun K hK => ?_); simp only [AW7, simprocAttr, hX]; (repeat (with_reducible refine And.intro ?_ ?_); exact vc0); refine hK _ ?_; clear hK K; refine Run.nq ?_
  refine Run.nq ?_; refine Run.regionW hC (fun K hK => ?_); simp only [AW7, simprocAttr, hX]; (repeat (with_reducible refine And.intro ?_ ?_); exact vc0); refine hK _ ?_; clear hK K; refine Run.nq ?_
  refine Run.nq ?_; refine Run.condW (by simp only [AW7, simprocAttr, hX]; rfl) (by simp only [AW7, simprocAttr, hX]) ?_ ?_
  · intro hc
    refine Run.nq ?_; refine Run.regionW hC (fun K hK => ?_); simp only [AW7, simprocAttr, hX]; (repeat (with_reducible refine And.intro ?_ ?_); exact vc0); refine hK _ ?_; clear hK K; refine Run.nq ?_
    refine Run.retW [4] (by decide) (by rw [hfn]; rfl) (by simp only [AW7, simprocAttr, hX]; rfl) (by simp only [AW7, simprocAttr, hX]) (hfin _ _ rfl rfl ?_)
    have : p ≠ q := fun h => by simp [h] at hc
    simpa using this
  intro hc
  have hl : p.length = q.length := by simp at hc; omega
  refine Run.nq ?_; refine Run.regionW hC (fun K hK => ?_); simp only [AW7, simprocAttr, hX]; (repeat (with_reducible refine And.intro ?_ ?_); exact vc0); refine hK _ ?_; clear hK K; refine Run.nq ?_
  refine Run.loopI (X := Nat) (fun i => ⟨26, [(0, true, .v (.sl false .int (p))), (1, true, .v (.sl false .int (q))), (5, true, .v (.int .i64 (i))), (4, true, .v (.bool (false)))], []⟩) (fun i => i ≤ p.length ∧ p.take i = q.take i) (fun i => p.length - i) (0) (⟨Nat.zero_le _, rfl⟩) ?_ ?_
  · exact Le.sub (by first | rfl | simp) (by simp only [AW7, simprocAttr, hX]; try simp <;> try (first | rfl | exact ⟨rfl, rfl⟩ | exact ⟨rfl, rfl, rfl⟩))
  rintro i ⟨hi, ht⟩ ih
  try simp only []
  refine Run.nq ?_; refine Run.regionW hC (fun K hK => ?_); simp only [AW7, simprocAttr, hX]; (repeat (with_reducible refine And.intro ?_ ?_); exact vc0); refine hK _ ?_; clear hK K; refine Run.nq ?_
  refine Run.nq ?_; refine Run.condW (by simp only [AW7, simprocAttr, hX]; rfl) (by simp only [AW7, simprocAttr, hX]) ?_ ?_
  · intro hc2
    have hc2 : i < p.length := by simpa using hc2
    refine Run.nq ?_; refine Run.regionD hC true [0,1,2,3,4,5,6,7,8] (by kernel_rfl) (fun K hK => ?_); simp only [AW7, simprocAttr, hX]; (repeat (with_reducible refine And.intro ?_ ?_); exact vc0); (repeat (with_reducible refine And.intro ?_ ?_); exact vc0); refine hK _ ?_; clear hK K; refine Run.nq ?_
    refine Run.nq ?_; refine Run.condW (by simp only [AW7, simprocAttr, hX]; rfl) (by simp only [AW7, simprocAttr, hX]) ?_ ?_
    · intro hne
      refine Run.nq ?_; refine Run.regionW hC (fun K hK => ?_); simp only [AW7, simprocAttr, hX]; (repeat (with_reducible refine And.intro ?_ ?_); exact vc0); refine hK _ ?_; clear hK K; refine Run.nq ?_
      refine Run.retW [4] (by decide) (by rw [hfn]; rfl) (by simp only [AW7, simprocAttr, hX]; rfl) (by simp only [AW7, simprocAttr, hX]) (hfin _ _ rfl rfl ?_)
      have : p ≠ q := fun h => by simp [h] at hne
      simpa using this
    · intro he
      have he : p.getD i 0 = q.getD i 0 := by simpa using he
      have ht2 : p.take (i + 1) = q.take (i + 1) := by rw [← take_snoc 0 p i hc2, ← take_snoc 0 q i (by omega), ht, he]
      refine Run.nq ?_; refine Run.regionW hC (fun K hK => ?_); simp (disch := omega) only [wrap_id, AW7, simprocAttr, hX]; (repeat (with_reducible refine And.intro ?_ ?_); exact vc0); refine hK _ ?_; clear hK K; refine Run.nq ?_
      refine Run.le ?_ (ih (i + 1) (⟨hc2, ht2⟩) (by (try simp only [List.length_append, List.length_cons, List.length_nil]); omega))
      exact Le.sub (by rfl) (by simp only [AW7, simprocAttr]; try simp)
  · intro hc2
    have hc2 : i = p.length := by simp at hc2; omega
    refine Run.exit rfl ?_; refine Run.nq ?_
    refine Run.nq ?_; refine Run.regionW hC (fun K hK => ?_); simp only [AW7, simprocAttr, hX]; (repeat (with_reducible refine And.intro ?_ ?_); exact vc0); refine hK _ ?_; clear hK K; refine Run.nq ?_
    refine Run.retW [4] (by decide) (by rw [hfn]; rfl) (by simp only [AW7, simprocAttr, hX]; rfl) (by simp only [AW7, simprocAttr, hX]) (hfin _ _ rfl rfl ?_)
    subst hc2
    rw [List.take_length, hl, List.take_length] at ht
    simpa using ht
theorem c_spec_SignOf (w : List Int) : FunA B 23 [.sl false .int w] (fun rs o => rs = [.int .i64 (if w.length % 2 = 0 then 1 else -1)] ∧ o = []) := by
  have e : ((w.length : Int).tmod 2 == 0) = decide (w.length % 2 = 0) := by
    have h : (w.length : Int).tmod 2 = ((w.length % 2 : Nat) : Int) := rfl
    rw [h]
    rcases Nat.mod_two_eq_zero_or_one w.length with h | h <;> rw [h] <;> rfl
  refine FunA.walk B_ok (fn := Tryz.f23) (fun vs w => Tryz.call23 vs w) Tryz.func23 rfl (by rw [Tryz.ntmps23]; simp) (fun C hC hP hT hΓ hbt hfn hpin hfin => ?_); have hX := BX; rw [← hΓ, ← hbt.1, ← hbt.2] at hX; rw [Tryz.ntmps23]; simp only [AW7, simprocAttr, hX]
  refine Run.nq ?_; refine Run.regionW hC (fun K hK => ?_); simp only [AW7, simprocAttr, hX]; (repeat (with_reducible refine And.intro ?_ ?_); exact vc0); refine hK _ ?_; clear hK K; refine Run.nq ?_
  refine Run.nq ?_; refine Run.regionW hC (fun K hK => ?_); simp only [AW7, simprocAttr, hX]; (repeat (with_reducible refine And.intro ?_ ?_); exact vc0); refine hK _ ?_; clear hK K; refine Run.nq ?_
  rw [e]
  refine Run.nq ?_; refine Run.condW (by simp only [AW7, simprocAttr, hX]; rfl) (by simp only [AW7, simprocAttr, hX]) ?_ ?_
  · intro h
    have h : w.length % 2 = 0 := by simpa using h
    refine Run.nq ?_; refine Run.regionW hC (fun K hK => ?_); simp only [AW7, simprocAttr, hX]; (repeat (with_reducible refine And.intro ?_ ?_); exact vc0); refine hK _ ?_; clear hK K; refine Run.nq ?_
    refine Run.retW [2] (by decide) (by rw [hfn]; rfl) (by simp only [AW7, simprocAttr, hX]; rfl) (by simp only [AW7, simprocAttr, hX]) (hfin _ _ rfl rfl ?_)
    simp [h]
  intro h
  have h : ¬ w.length % 2 = 0 := by simpa using h
  refine Run.nq ?_; refine Run.regionW hC (fun K hK => ?_); simp only [AW7, simprocAttr, hX]; (repeat (with_reducible refine And.intro ?_ ?_); exact vc0); refine hK _ ?_; clear hK K; refine Run.nq ?_
  refine Run.retW [2] (by decide) (by rw [hfn]; rfl) (by simp only [AW7, simprocAttr, hX]; rfl) (by simp only [AW7, simprocAttr, hX]) (hfin _ _ rfl rfl ?_)
  simp [h]
theorem c_spec_LengthOf (c : List (List Int)) (w : List Int) (hcl : c.length ≤ 1048576) :
    FunA B 19 [.sl false (.row false) c, .sl false .int w] (fun rs o => rs = [.int .i64 (if wordB c w = true then ((redL c w).length : Int) else -1)] ∧ o = []) := by
  refine FunA.walk B_ok (fn := Tryz.f19) (fun vs w => Tryz.call19 vs w) Tryz.func19 rfl (by rw [Tryz.ntmps19]; simp) (fun C hC hP hT hΓ hbt hfn hpin hfin => ?_); have hX := BX; rw [← hΓ, ← hbt.1, ← hbt.2] at hX; rw [Tryz.ntmps19]; simp only [AW7, simprocAttr, hX]
  refine Run.nq ?_; refine Run.regionW hC (fun K hK => ?_); simp only [AW7, simprocAttr, hX]; (repeat (with_reducible refine And.intro ?_ ?_); exact vc0); refine hK _ ?_; clear hK K; refine Run.nq ?_
  refine Run.nq ?_; refine Run.regionW hC (fun K hK => ?_); simp only [AW7, simprocAttr, hX]; (repeat (with_reducible refine And.intro ?_ ?_); exact vc0)
  refine FunA.callW hP hT (c_spec_NormalForm c w hcl) (by simp only [AW7, simprocAttr]) ?_
  rintro rs o ⟨rfl, rfl⟩
  (try simp only [AW7, simprocAttr, hX]); (repeat (with_reducible refine And.intro ?_ ?_); exact vc0)
  (repeat (with_reducible refine And.intro ?_ ?_); exact vc0); refine hK _ ?_; clear hK K; refine Run.nq ?_
  refine Run.nq ?_; refine Run.regionW hC (fun K hK => ?_); simp only [AW7, simprocAttr, hX]; (repeat (with_reducible refine And.intro ?_ ?_); exact vc0); refine hK _ ?_; clear hK K; refine Run.nq ?_
  refine Run.nq ?_; refine Run.condW (by simp only [AW7, simprocAttr, hX]; rfl) (by simp only [AW7, simprocAttr, hX]) ?_ ?_
  · intro h
    have h : wordB c w = false := by simpa using h
    refine Run.nq ?_; refine Run.regionW hC (fun K hK => ?_); simp only [AW7, simprocAttr, hX]; (repeat (with_reducible refine And.intro ?_ ?_); exact vc0); refine hK _ ?_; clear hK K; refine Run.nq ?_
    refine Run.reK hpin [4] [] (by decide) (by simp) ?_; simp only [AR, AW7, simprocAttr]
    refine Run.retW [4] (by decide) (by rw [hfn]; rfl) (by simp only [AW7, simprocAttr, hX]; rfl) (by simp only [AW7, simprocAttr, hX]) (hfin _ _ rfl rfl ?_)
    simp [h]
  intro h
  have h : wordB c w = true := by simpa using h
  refine Run.nq ?_; refine Run.regionW hC (fun K hK => ?_); simp only [AW7, simprocAttr, hX]; (repeat (with_reducible refine And.intro ?_ ?_); exact vc0); refine hK _ ?_; clear hK K; refine Run.nq ?_
  refine Run.reK hpin [4] [] (by decide) (by simp) ?_; simp only [AR, AW7, simprocAttr]
  refine Run.retW [4] (by decide) (by rw [hfn]; rfl) (by simp only [AW7, simprocAttr, hX]; rfl) (by simp only [AW7, simprocAttr, hX]) (hfin _ _ rfl rfl ?_)
  simp [nfW, h]
theorem getD_take {α : Type} {d : α} {p q : List α} {i : Nat} (hp : i < p.length) (hq : i < q.length) (ht : p.take i = q.take i) (he : p.getD i d = q.getD i d) : p.take (i + 1) = q.take (i + 1) := by rw [← take_snoc d p i hp, ← take_snoc d q i hq, ht, he]
theorem c_sameWords (p q : List (List Int)) (hp : p.length ≤ 4503599627370496) (hr : ∀ r ∈ p, r.length ≤ 4503599627370496) : FunA B 31 [.sl false (.row false) p, .sl false (.row false) q] (fun rs o => rs = [.bool (p == q)] ∧ o = []) := by
  refine FunA.walk B_ok (fn := Tryz.f31) (fun vs w => Tryz.call31 vs w) Tryz.func31 rfl (by rw [Tryz.ntmps31]; simp) (fun C hC hP hT hΓ hbt hfn hpin hfin => ?_); have hX := BX; rw [← hΓ, ← hbt.1, ← hbt.2] at hX; rw [Tryz.ntmps31]; simp only [AW7, simprocAttr, hX]
  refine Run.nq ?_; refine Run.regionW hC (fun K hK => ?_); simp only [AW7, simprocAttr, hX]; (repeat (with_reducible refine And.intro ?_ ?_); exact vc0); refine hK _ ?_; clear hK K; refine Run.nq ?_
  refine Run.nq ?_; refine Run.regionW hC (fun K hK => ?_); simp only [AW7, simprocAttr, hX]; (repeat (with_reducible refine And.intro ?_ ?_); exact vc0); refine hK _ ?_; clear hK K; refine Run.nq ?_
  refine Run.nq ?_; refine Run.condW (by simp only [AW7, simprocAttr, hX]; rfl) (by simp only [AW7, simprocAttr, hX]) ?_ ?_
  · intro hc
    refine Run.nq ?_; refine Run.regionW hC (fun K hK => ?_); simp only [AW7, simprocAttr, hX]; (repeat (with_reducible refine And.intro ?_ ?_); exact vc0); refine hK _ ?_; clear hK K; refine Run.nq ?_
    refine Run.retW [4] (by decide) (by rw [hfn]; rfl) (by simp only [AW7, simprocAttr, hX]; rfl) (by simp only [AW7, simprocAttr, hX]) (hfin _ _ rfl rfl ?_)
    have : p ≠ q := fun h => by simp [h] at hc
    simpa using this
  intro hc
  have hl : p.length = q.length := by simp at hc; omega
  refine Run.nq ?_; refine Run.regionW hC (fun K hK => ?_); simp only [AW7, simprocAttr, hX]; (repeat (with_reducible refine And.intro ?_ ?_); exact vc0); refine hK _ ?_; clear hK K; refine Run.nq ?_
  refine Run.loopI (X := Nat) (fun i => ⟨27, [(0, true, .v (.sl false (.row false) (p))), (1, true, .v (.sl false (.row false) (q))), (5, true, .v (.int .i64 (i))), (4, true, .v (.bool (false)))], []⟩) (fun i => i ≤ p.length ∧ p.take i = q.take i) (fun i => p.length - i) (0) (⟨Nat.zero_le _, rfl⟩) ?_ ?_
  · exact Le.sub (by first | rfl | simp) (by simp only [AW7, simprocAttr, hX]; try simp <;> try (first | rfl | exact ⟨rfl, rfl⟩ | exact ⟨rfl, rfl, rfl⟩))
  rintro i ⟨hi, ht⟩ ih
  try simp only []
  refine Run.nq ?_; refine Run.regionW hC (fun K hK => ?_); simp only [AW7, simprocAttr, hX]; (repeat (with_reducible refine And.intro ?_ ?_); exact vc0); refine hK _ ?_; clear hK K; refine Run.nq ?_
  refine Run.nq ?_; refine Run.condW (by simp only [AW7, simprocAttr, hX]; rfl) (by simp only [AW7, simprocAttr, hX]) ?_ ?_
  · intro hc2
    have hc2 : i < p.length := by simpa using hc2
    have hri : (p.getD i []).length ≤ 4503599627370496 := by
      rw [List.getD_eq_getElem?_getD, List.getElem?_eq_getElem hc2]
      exact hr _ (List.getElem_mem hc2)
    refine Run.nq ?_; refine Run.regionD hC true [0,1,2,3,4,5,6,7,8,9] (by kernel_rfl) (fun K hK => ?_); simp only [AW7, simprocAttr, hX]; (repeat (with_reducible refine And.intro ?_ ?_); exact vc0)
    refine FunA.callD hP hT (c_sameInts (p.getD i []) (q.getD i []) hri) (by simp only [AW7, simprocAttr]) ?_
    rintro rs o ⟨rfl, rfl⟩
    (try simp only [AW7, simprocAttr, hX]); (repeat (with_reducible refine And.intro ?_ ?_); exact vc0)
    (repeat (with_reducible refine And.intro ?_ ?_); exact vc0); refine hK _ ?_; clear hK K; refine Run.nq ?_
    refine Run.nq ?_; refine Run.condW (by simp only [AW7, simprocAttr, hX]; rfl) (by simp only [AW7, simprocAttr, hX]) ?_ ?_
    · intro hne
      refine Run.nq ?_; refine Run.regionW hC (fun K hK => ?_); simp only [AW7, simprocAttr, hX]; (repeat (with_reducible refine And.intro ?_ ?_); exact vc0); refine hK _ ?_; clear hK K; refine Run.nq ?_
      refine Run.retW [4] (by decide) (by rw [hfn]; rfl) (by simp only [AW7, simprocAttr, hX]; rfl) (by simp only [AW7, simprocAttr, hX]) (hfin _ _ rfl rfl ?_)
      have : p ≠ q := fun h => by simp [h] at hne
      simpa using this
    · intro he
      have he : p.getD i [] = q.getD i [] := by simpa using he
      have ht2 := getD_take hc2 (by omega) ht he
      refine Run.nq ?_; refine Run.regionW hC (fun K hK => ?_); simp (disch := omega) only [wrap_id, AW7, simprocAttr, hX]; (repeat (with_reducible refine And.intro ?_ ?_); exact vc0); refine hK _ ?_; clear hK K; refine Run.nq ?_
      refine Run.le ?_ (ih (i + 1) (⟨hc2, ht2⟩) (by (try simp only [List.length_append, List.length_cons, List.length_nil]); omega))
      exact Le.sub (by rfl) (by simp only [AW7, simprocAttr]; try simp)
  · intro hc2
    have hc2 : i = p.length := by simp at hc2; omega
    refine Run.exit rfl ?_; refine Run.nq ?_
    refine Run.nq ?_; refine Run.regionW hC (fun K hK => ?_); simp only [AW7, simprocAttr, hX]; (repeat (with_reducible refine And.intro ?_ ?_); exact vc0); refine hK _ ?_; clear hK K; refine Run.nq ?_
    refine Run.retW [4] (by decide) (by rw [hfn]; rfl) (by simp only [AW7, simprocAttr, hX]; rfl) (by simp only [AW7, simprocAttr, hX]) (hfin _ _ rfl rfl ?_)
    subst hc2
    rw [List.take_length, hl, List.take_length] at ht
    simpa using ht
noncomputable def sameB (c : List (List Int)) (u v : List Int) : Bool := wordB c u && wordB c v && (imageL c u == imageL c v)
theorem c_impl_same (c : List (List Int)) (u v : List Int) (hc : CartanP c) (hu : letters c.length u) (hv : letters c.length v) (hul : u.length ≤ 31) (hvl : v.length ≤ 31) :
    FunA B 117 [.sl false (.row false) c, .sl false .int u, .sl false .int v] (fun rs o => rs = [.bool (imageL c u == imageL c v)] ∧ o = []) := by
  have hn := hc.2.1
  refine FunA.walk B_ok (fn := Tryz.f117) (fun vs w => Tryz.call117 vs w) Tryz.func117 rfl (by rw [Tryz.ntmps117]; simp) (fun C hC hP hT hΓ hbt hfn hpin hfin => ?_); have hX := BX; rw [← hΓ, ← hbt.1, ← hbt.2] at hX; rw [Tryz.ntmps117]; simp only [AW7, simprocAttr, hX]
  refine Run.nq ?_; refine Run.regionW hC (fun K hK => ?_); simp only [AW7, simprocAttr, hX]; (repeat (with_reducible refine And.intro ?_ ?_); exact vc0); refine hK _ ?_; clear hK K; refine Run.nq ?_
  refine Run.nq ?_; refine Run.regionW hC (fun K hK => ?_); simp only [AW7, simprocAttr, hX]; (repeat (with_reducible refine And.intro ?_ ?_); exact vc0)
  refine FunA.callW hP hT (c_impl_image c u hc hu hul) (by simp only [AW7, simprocAttr]) ?_
  rintro rs o ⟨rfl, rfl⟩
  (try simp only [AW7, simprocAttr, hX]); (repeat (with_reducible refine And.intro ?_ ?_); exact vc0)
  refine FunA.callW hP hT (c_impl_image c v hc hv hvl) (by simp only [AW7, simprocAttr]) ?_
  rintro rs o ⟨rfl, rfl⟩
  (try simp only [AW7, simprocAttr, hX]); (repeat (with_reducible refine And.intro ?_ ?_); exact vc0)
  refine FunA.callW hP hT (c_slices_Equal (imageL c u) (imageL c v) (by rw [imageL_length]; omega)) (by simp only [AW7, simprocAttr]; first | done | decide | exact ⟨rfl, rfl⟩) ?_
  rintro rs o ⟨rfl, rfl⟩
  (try simp only [AW7, simprocAttr, hX]); (repeat (with_reducible refine And.intro ?_ ?_); exact vc0)
  (repeat (with_reducible refine And.intro ?_ ?_); exact vc0); refine hK _ ?_; clear hK K; refine Run.nq ?_
  refine Run.reK hpin [6] [] (by decide) (by simp) ?_; simp only [AR, AW7, simprocAttr]
  refine Run.retW [6] (by decide) (by rw [hfn]; rfl) (by simp only [AW7, simprocAttr, hX]; rfl) (by simp only [AW7, simprocAttr, hX]) (hfin _ _ rfl rfl ?_)
  exact ⟨rfl, rfl⟩
theorem c_impl_AreSame (c : List (List Int)) (u v : List Int) (hcl : c.length ≤ 1048576) :
    FunA B 18 [.sl false (.row false) c, .sl false .int u, .sl false .int v] (fun rs o => rs = [.bool (sameB c u v)] ∧ o = []) := by
  refine FunA.walk B_ok (fn := Tryz.f18) (fun vs w => Tryz.call18 vs w) Tryz.func18 rfl (by rw [Tryz.ntmps18]; simp) (fun C hC hP hT hΓ hbt hfn hpin hfin => ?_); have hX := BX; rw [← hΓ, ← hbt.1, ← hbt.2] at hX; rw [Tryz.ntmps18]; simp only [AW7, simprocAttr, hX]
  refine Run.nq ?_; refine Run.regionW hC (fun K hK => ?_); simp only [AW7, simprocAttr, hX]; (repeat (with_reducible refine And.intro ?_ ?_); exact vc0); refine hK _ ?_; clear hK K; refine Run.nq ?_
  refine Run.nq ?_; refine Run.regionW hC (fun K hK => ?_); simp only [AW7, simprocAttr, hX]; (repeat (with_reducible refine And.intro ?_ ?_); exact vc0)
  refine FunA.callW hP hT (c_impl_IsWord c u) (by simp only [AW7, simprocAttr]) ?_
  rintro rs o ⟨rfl, rfl⟩
  cases hu : wordB c u with
  | false =>
    (try simp only [AW7, simprocAttr, hX]); (repeat (with_reducible refine And.intro ?_ ?_); exact vc0)
    refine .inl (CallG.off (.bool false) ?_)
    (try simp only [AW7, simprocAttr, hX]); (repeat (with_reducible refine And.intro ?_ ?_); exact vc0)
    refine .inl (CallG.off (.bool false) ?_)
    (try simp only [AW7, simprocAttr, hX]); (repeat (with_reducible refine And.intro ?_ ?_); exact vc0)
    (repeat (with_reducible refine And.intro ?_ ?_); exact vc0); refine hK _ ?_; clear hK K; refine Run.nq ?_
    refine Run.retW [6] (by decide) (by rw [hfn]; rfl) (by simp only [AW7, simprocAttr, hX]; rfl) (by simp only [AW7, simprocAttr, hX]) (hfin _ _ rfl rfl ?_)
    simp [sameB, hu]
  | true =>
    (try simp only [AW7, simprocAttr, hX]); (repeat (with_reducible refine And.intro ?_ ?_); exact vc0)
    refine .inl (FunA.callG hP hT (c_impl_IsWord c v) (fun _ => rfl) (fun _ => by simp only [AW7, simprocAttr]) ?_)
    cases hv : wordB c v with
    | false =>
      (try simp only [AW7, simprocAttr, hX]); (repeat (with_reducible refine And.intro ?_ ?_); exact vc0)
      refine .inl (CallG.off (.bool false) ?_)
      (try simp only [AW7, simprocAttr, hX]); (repeat (with_reducible refine And.intro ?_ ?_); exact vc0)
      (repeat (with_reducible refine And.intro ?_ ?_); exact vc0); refine hK _ ?_; clear hK K; refine Run.nq ?_
      refine Run.retW [6] (by decide) (by rw [hfn]; rfl) (by simp only [AW7, simprocAttr, hX]; rfl) (by simp only [AW7, simprocAttr, hX]) (hfin _ _ rfl rfl ?_)
      simp [sameB, hu, hv]
    | true =>
      obtain ⟨hc, h1, h2⟩ := wordB_iff.1 hu
      obtain ⟨_, h3, h4⟩ := wordB_iff.1 hv
      (try simp only [AW7, simprocAttr, hX]); (repeat (with_reducible refine And.intro ?_ ?_); exact vc0)
      refine .inl (FunA.callG hP hT (c_impl_same c u v hc (by assumption) (by assumption) (by omega) (by omega)) (fun _ => rfl) (fun _ => by simp only [AW7, simprocAttr]) ?_)
      (try simp only [AW7, simprocAttr, hX]); (repeat (with_reducible refine And.intro ?_ ?_); exact vc0)
      (repeat (with_reducible refine And.intro ?_ ?_); exact vc0); refine hK _ ?_; clear hK K; refine Run.nq ?_
      refine Run.retW [6] (by decide) (by rw [hfn]; rfl) (by simp only [AW7, simprocAttr, hX]; rfl) (by simp only [AW7, simprocAttr, hX]) (hfin _ _ rfl rfl ?_)
      simp [sameB, hu, hv]
end Go.Proofs.YtojcdgdbffmlpaaGreat
namespace Go.Proofs.YtojcdgdbffmlpaaGreat
open Go Go.Aw
theorem c_spec_AreSame (c : List (List Int)) (u v : List Int) (hcl : c.length ≤ 1048576) :
    FunA B 16 [.sl false (.row false) c, .sl false .int u, .sl false .int v] (fun rs o => rs = [.bool (sameB c u v)] ∧ o = []) := by
  refine FunA.walk B_ok (fn := Tryz.f16) (fun vs w => Tryz.call16 vs w) Tryz.func16 rfl (by rw [Tryz.ntmps16]; simp) (fun C hC hP hT hΓ hbt hfn hpin hfin => ?_); have hX := BX; rw [← hΓ, ← hbt.1, ← hbt.2] at hX; rw [Tryz.ntmps16]; simp only [AW7, simprocAttr, hX]
  refine Run.nq ?_; refine Run.regionW hC (fun K hK => ?_); simp only [AW7, simprocAttr, hX]; (repeat (with_reducible refine And.intro ?_ ?_); exact vc0); refine hK _ ?_; clear hK K; refine Run.nq ?_
  refine Run.nq ?_; refine Run.regionW hC (fun K hK => ?_); simp only [AW7, simprocAttr, hX]; (repeat (with_reducible refine And.intro ?_ ?_); exact vc0)
  refine FunA.callW hP hT (c_spec_IsWord c u hcl) (by simp only [AW7, simprocAttr]) ?_
  rintro rs o ⟨rfl, rfl⟩
  cases hu : wordB c u with
  | false =>
    (try simp only [AW7, simprocAttr, hX]); (repeat (with_reducible refine And.intro ?_ ?_); exact vc0)
    refine .inl (CallG.off (.bool false) ?_)
    (try simp only [AW7, simprocAttr, hX]); (repeat (with_reducible refine And.intro ?_ ?_); exact vc0)
    refine .inl (CallG.off (.bool false) ?_)
    (try simp only [AW7, simprocAttr, hX]); (repeat (with_reducible refine And.intro ?_ ?_); exact vc0)
    refine .inl (CallG.off (.bool false) ?_)
    (try simp only [AW7, simprocAttr, hX]); (repeat (with_reducible refine And.intro ?_ ?_); exact vc0)
    refine .inl (CallG.off (.bool false) ?_)
    (try simp only [AW7, simprocAttr, hX]); (repeat (with_reducible refine And.intro ?_ ?_); exact vc0)
    (repeat (with_reducible refine And.intro ?_ ?_); exact vc0); refine hK _ ?_; clear hK K; refine Run.nq ?_
    refine Run.retW [6] (by decide) (by rw [hfn]; rfl) (by simp only [AW7, simprocAttr, hX]; rfl) (by simp only [AW7, simprocAttr, hX]) (hfin _ _ rfl rfl ?_)
    simp [sameB, hu]
  | true =>
    (try simp only [AW7, simprocAttr, hX]); (repeat (with_reducible refine And.intro ?_ ?_); exact vc0)
    refine .inl (FunA.callG hP hT (c_spec_IsWord c v hcl) (fun _ => rfl) (fun _ => by simp only [AW7, simprocAttr]) ?_)
    cases hv : wordB c v with
    | false =>
      (try simp only [AW7, simprocAttr, hX]); (repeat (with_reducible refine And.intro ?_ ?_); exact vc0)
      refine .inl (CallG.off (.bool false) ?_)
      (try simp only [AW7, simprocAttr, hX]); (repeat (with_reducible refine And.intro ?_ ?_); exact vc0)
      refine .inl (CallG.off (.bool false) ?_)
      (try simp only [AW7, simprocAttr, hX]); (repeat (with_reducible refine And.intro ?_ ?_); exact vc0)
      refine .inl (CallG.off (.bool false) ?_)
      (try simp only [AW7, simprocAttr, hX]); (repeat (with_reducible refine And.intro ?_ ?_); exact vc0)
      (repeat (with_reducible refine And.intro ?_ ?_); exact vc0); refine hK _ ?_; clear hK K; refine Run.nq ?_
      refine Run.retW [6] (by decide) (by rw [hfn]; rfl) (by simp only [AW7, simprocAttr, hX]; rfl) (by simp only [AW7, simprocAttr, hX]) (hfin _ _ rfl rfl ?_)
      simp [sameB, hu, hv]
    | true =>
      obtain ⟨hc, h1, h2⟩ := wordB_iff.1 hu
      obtain ⟨_, h3, h4⟩ := wordB_iff.1 hv
      have hn := hc.2.1
      (try simp only [AW7, simprocAttr, hX]); (repeat (with_reducible refine And.intro ?_ ?_); exact vc0)
      refine .inr ⟨rfl, ?_⟩
      refine FunA.callW hP hT (c_spec_l8Image c u hc (by assumption) (by omega)) (by simp only [AW7, simprocAttr]) ?_
      rintro rs o ⟨rfl, rfl⟩
      (try simp only [AW7, simprocAttr, hX]); (repeat (with_reducible refine And.intro ?_ ?_); exact vc0)
      refine .inr ⟨rfl, ?_⟩
      refine FunA.callW hP hT (c_spec_l8Image c v hc (by assumption) (by omega)) (by simp only [AW7, simprocAttr]) ?_
      rintro rs o ⟨rfl, rfl⟩
      (try simp only [AW7, simprocAttr, hX]); (repeat (with_reducible refine And.intro ?_ ?_); exact vc0)
      refine .inr ⟨rfl, ?_⟩
      refine FunA.callW hP hT (c_spec_EqualWords (imageL c u) (imageL c v) (by rw [imageL_length]; omega)) (by simp only [AW7, simprocAttr]; first | done | decide | exact ⟨rfl, rfl⟩) ?_
      rintro rs o ⟨rfl, rfl⟩
      (try simp only [AW7, simprocAttr, hX]); (repeat (with_reducible refine And.intro ?_ ?_); exact vc0)
      (repeat (with_reducible refine And.intro ?_ ?_); exact vc0); refine hK _ ?_; clear hK K; refine Run.nq ?_
      refine Run.reK hpin [6] [] (by decide) (by simp) ?_; simp only [AR, AW7, simprocAttr]
      refine Run.retW [6] (by decide) (by rw [hfn]; rfl) (by simp only [AW7, simprocAttr, hX]; rfl) (by simp only [AW7, simprocAttr, hX]) (hfin _ _ rfl rfl ?_)
      simp [sameB, hu, hv]
end Go.Proofs.YtojcdgdbffmlpaaGreat

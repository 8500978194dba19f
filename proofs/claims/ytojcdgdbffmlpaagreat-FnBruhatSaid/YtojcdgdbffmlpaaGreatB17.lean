/- All that lies below an element in the Bruhat order: the reference's side. -/
import Derived.Test.YtojcdgdbffmlpaaGreatB16
import Derived.Test.YtojcdgdbffmlpaaGreatB14
set_option linter.unusedVariables false
set_option linter.unusedSimpArgs false
namespace Go.Proofs.YtojcdgdbffmlpaaGreat
open Go Go.Aw Go.Cox
def DoneV (c : List (List Int)) (L : List (List Int)) (k : Nat) : Prop := ∀ j, j < k → j < L.length → ∀ z ∈ bcT c (L.getD j []) (L.getD j []).length, z ∈ L
set_option maxHeartbeats 1000000 in
theorem c_spec_LowerIntervalR (c : List (List Int)) (w : List Int) (hcl : c.length ≤ 1048576) :
    FunA B 28 [.sl false (.row false) c, .sl false .int w] (fun rs o => ∃ ys g nn rest, (rw2 ys = lowX c w ∧ nn = true ∧ rest = [.bool (lowB c w)]) ∧ (lb1 ys).Nodup ∧ rest.all flatAV = true ∧ rs = .own 0 g :: rest ∧ o = [.arr .lrow ys g nn]) := by
  refine FunA.walk B_ok (fn := Tryz.f28) (fun vs w => Tryz.call28 vs w) Tryz.func28 rfl (by rw [Tryz.ntmps28]; simp) (fun C hC hP hT hΓ hbt hfn hpin hfin => ?_); have hX := BX; rw [← hΓ, ← hbt.1, ← hbt.2] at hX; rw [Tryz.ntmps28]; simp only [AW7, simprocAttr, hX]
  refine Run.nq ?_; refine Run.regionW hC (fun K hK => ?_); simp only [AW7, simprocAttr, hX]; (repeat (with_reducible refine And.intro ?_ ?_); exact vc0); refine hK _ ?_; clear hK K; refine Run.nq ?_
  refine Run.nq ?_; refine Run.regionW hC (fun K hK => ?_); simp only [AW7, simprocAttr, hX]; (repeat (with_reducible refine And.intro ?_ ?_); exact vc0)
  refine FunA.callW hP hT (c_spec_NormalForm c w hcl) (by simp only [AW7, simprocAttr]) ?_
  rintro rs o ⟨rfl, rfl⟩
  (try simp only [AW7, simprocAttr, hX]); (repeat (with_reducible refine And.intro ?_ ?_); exact vc0)
  (repeat (with_reducible refine And.intro ?_ ?_); exact vc0); refine hK _ ?_; clear hK K; refine Run.nq ?_
  refine Run.nq ?_; refine Run.regionW hC (fun K hK => ?_); simp only [AW7, simprocAttr, hX]; (repeat (with_reducible refine And.intro ?_ ?_); exact vc0); refine hK _ ?_; clear hK K; refine Run.nq ?_
  refine Run.nq ?_; refine Run.condW (by simp only [AW7, simprocAttr, hX]; rfl) (by simp only [AW7, simprocAttr, hX]) ?_ ?_
  · intro h
    have h : wordB c w = false := by simpa using h
    refine Run.nq ?_; refine Run.regionW hC (fun K hK => ?_); simp only [AW7, simprocAttr, hX]; (repeat (with_reducible refine And.intro ?_ ?_); exact vc0); refine hK _ ?_; clear hK K; refine Run.nq ?_
    refine Run.reK hpin [4, 5] [1] (by decide) (by simp) ?_; simp only [AR, AW7, simprocAttr]
    refine Run.retW [4, 5] (by decide) (by rw [hfn]; rfl) (by simp only [AW7, simprocAttr, hX]; rfl) (by simp only [AW7, simprocAttr, hX]) (hfin _ _ rfl rfl ?_)
    exact ⟨[], 0, true, [.bool false], ⟨by unfold lowX; rw [h]; rfl, rfl, by unfold lowB; rw [h]; rfl⟩, by simp [lb1], rfl, rfl, rfl⟩
  intro h
  have hwb : wordB c w = true := by simpa using h
  obtain ⟨hc, hw2, hw3⟩ := wordB_iff.1 hwb
  have hn := hc.2.1
  obtain ⟨hx, hx15⟩ := word_nf hwb
  rw [nfW_on hwb]
  have hpX : lowX c w = fewL (Low c (redL c w)) := by unfold lowX; rw [hwb]; rfl
  have hpB : lowB c w = fewB (Low c (redL c w)) := by unfold lowB; rw [hwb]; rfl
  generalize hgx : redL c w = x at *
  refine Run.nq ?_; refine Run.regionW hC (fun K hK => ?_); simp only [AW7, simprocAttr, hX]; (repeat (with_reducible refine And.intro ?_ ?_); exact vc0)
  intro q hq
  (repeat (with_reducible refine And.intro ?_ ?_); exact vc0)
  (repeat (with_reducible refine And.intro ?_ ?_); exact vc0); refine hK _ ?_; clear hK K; refine Run.nq ?_
  refine Run.nq ?_; refine Run.regionW hC (fun K hK => ?_); simp only [AW7, simprocAttr, hX]; (repeat (with_reducible refine And.intro ?_ ?_); exact vc0); refine hK _ ?_; clear hK K; refine Run.nq ?_
  refine Run.reK hpin [0, 8, 9] [1] (by decide) (by simp) ?_; simp only [AR, AW7, simprocAttr]
  refine Run.loopI (X := List (Nat × List Int) × Nat) (fun s => ⟨75, [(0, true, .v (.sl false (.row false) (c))), (8, true, .v (.own 0 0)), (9, true, .v (.int .i64 (s.2)))], [.arr .lrow (s.1) 0 true]⟩) (fun s => (s.2 ≤ s.1.length ∧ s.1.length ≤ 200) ∧ (rw2 s.1).Nodup ∧ (∀ z ∈ rw2 s.1, Low c x z) ∧ x ∈ rw2 s.1 ∧ DoneV c (rw2 s.1) s.2) (fun s => 201 - s.2) (([(q, x)], 0)) (⟨⟨by simp, by simp⟩, by simp [rw2], fun z hz => by simp [rw2] at hz; rw [hz]; exact Low.self hx, by simp [rw2], fun j hj => absurd hj (Nat.not_lt_zero _)⟩) ?_ ?_
  · exact Le.sub (by first | rfl | simp) (by simp only [AW7, simprocAttr, hX]; try simp <;> try (first | rfl | exact ⟨rfl, rfl⟩ | exact ⟨rfl, rfl, rfl⟩))
  rintro ⟨ys, k⟩ ⟨⟨hk, hyl⟩, hN, hR, hxm, hD⟩ ihO
  try simp only []
  simp only [] at hk hyl hN hR hxm hD
  clear hq
  refine Run.nq ?_; refine Run.regionW hC (fun K hK => ?_); simp only [AW7, simprocAttr, hX]; (repeat (with_reducible refine And.intro ?_ ?_); exact vc0); refine hK _ ?_; clear hK K; refine Run.nq ?_
  refine Run.nq ?_; refine Run.condW (by simp only [AW7, simprocAttr, hX]; rfl) (by simp only [AW7, simprocAttr, hX]) ?_ ?_
  rotate_left
  · intro h3
    have hke : k = ys.length := by rw [decide_eq_false_iff_not] at h3; omega
    subst hke
    have hcomp : ∀ z, z ∈ rw2 ys ↔ Low c x z := fun z => by
      refine ⟨hR z, fun hz => ?_⟩
      exact Low.all hc (fun y hy => (hR y hy).1) (fun y hy t ht => by
        obtain ⟨j, hj, rfl⟩ := List.getElem_of_mem hy
        have hj' : j < ys.length := by rw [rwl] at hj; exact hj
        have := hD j hj' hj t (by rw [getD_eq hj]; exact ht)
        exact this) x.length x z rfl hxm hz
    obtain ⟨e1, e2⟩ := few_on hN hcomp (by rw [rwl]; exact hyl)
    refine Run.exit rfl ?_; refine Run.nq ?_
    refine Run.nq ?_; refine Run.regionW hC (fun K hK => ?_); simp only [AW7, simprocAttr, hX]; (repeat (with_reducible refine And.intro ?_ ?_); exact vc0); refine hK _ ?_; clear hK K; refine Run.nq ?_
    refine Run.nq ?_; refine Run.regionW hC (fun K hK => ?_); simp only [AW7, simprocAttr, hX]; (repeat (with_reducible refine And.intro ?_ ?_); exact vc0); refine hK _ ?_; clear hK K; refine Run.nq ?_
    refine Run.reK hpin [0, 8, 12, 13] [0, 1] (by decide) (by simp) ?_; simp only [AR, AW7, simprocAttr]
    refine Run.loopI (X := List (Nat × List Int) × Nat) (fun s => ⟨75, [(0, true, .v (.sl false (.row false) (c))), (8, true, .v (.own 0 0)), (12, true, .v (.own 1 0)), (13, true, .v (.int .i64 (s.2)))], [.arr .lrow (ys) 0 true, .arr .lrow (s.1) 0 true]⟩) (fun s => s.2 ≤ ys.length ∧ (lb1 s.1).Nodup ∧ rw2 s.1 = srt ((rw2 ys).take s.2)) (fun s => ys.length - s.2) (([], 0)) (⟨Nat.zero_le _, by simp [lb1], rfl⟩) ?_ ?_
    · exact Le.sub (by first | rfl | simp) (by simp only [AW7, simprocAttr, hX]; try simp <;> try (first | rfl | exact ⟨rfl, rfl⟩ | exact ⟨rfl, rfl, rfl⟩))
    rintro ⟨zs, i⟩ ⟨hi, hz1, hz2⟩ ih
    try simp only []
    simp only [] at hi hz1 hz2
    refine Run.nq ?_; refine Run.regionW hC (fun K hK => ?_); simp only [AW7, simprocAttr, hX]; (repeat (with_reducible refine And.intro ?_ ?_); exact vc0); refine hK _ ?_; clear hK K; refine Run.nq ?_
    refine Run.nq ?_; refine Run.condW (by simp only [AW7, simprocAttr, hX]; rfl) (by simp only [AW7, simprocAttr, hX]) ?_ ?_
    rotate_left
    · intro h4
      have hie : i = ys.length := by rw [decide_eq_false_iff_not] at h4; omega
      refine Run.exit rfl ?_; refine Run.nq ?_
      refine Run.nq ?_; refine Run.regionW hC (fun K hK => ?_); simp only [AW7, simprocAttr, hX]; (repeat (with_reducible refine And.intro ?_ ?_); exact vc0); refine hK _ ?_; clear hK K; refine Run.nq ?_
      refine Run.reK hpin [4, 5] [1] (by decide) (by simp) ?_; simp only [AR, AW7, simprocAttr]
      refine Run.retW [4, 5] (by decide) (by rw [hfn]; rfl) (by simp only [AW7, simprocAttr, hX]; rfl) (by simp only [AW7, simprocAttr, hX]) (hfin _ _ rfl rfl ?_)
      refine ⟨zs, 0, true, [.bool true], ⟨?_, rfl, by rw [hpB, e1]⟩, hz1, rfl, rfl, rfl⟩
      rw [hpX, e2, hz2, hie, show (rw2 ys).take ys.length = rw2 ys from List.take_of_length_le (by rw [rwl]; exact Nat.le_refl _)]
    intro h4
    have h4 : i < ys.length := by rw [decide_eq_true_eq] at h4; omega
    have hzl : zs.length ≤ 200 := by
      have := congrArg List.length hz2
      have h5 := srt_len ((rw2 ys).take i)
      rw [rwl] at this
      rw [List.length_take, rwl] at h5
      omega
    have hzi := hR _ (mem_rw2 h4)
    have hsn := take_snoc [] (rw2 ys) i (by rw [rwl]; exact h4)
    rw [← rwg] at hsn
    generalize hgz : (ys.getD i (0, [])).2 = z at *
    have hzle := hzi.1.2.2
    refine Run.nq ?_; refine Run.regionW hC (fun K hK => ?_); simp only [AW7, simprocAttr, hX]; (repeat (with_reducible refine And.intro ?_ ?_); exact vc0)
    simp only [hgz]
    refine FunM.call hP hT (c_spec_l11Put zs z hz1 (by omega) (by omega) true) 1 0 (by simp only [AW7, simprocAttr]; rfl) (by simp) rfl (by simp only [AW7, simprocAttr]; try simp) ?_
    rintro rs o' obs' ⟨rfl, ys', hE3, hN3, h7⟩
    obtain ⟨rfl, rfl⟩ := List.cons.inj h7
    (try simp only [AW7, simprocAttr, hX]); (repeat (with_reducible refine And.intro ?_ ?_); exact vc0)
    (repeat (with_reducible refine And.intro ?_ ?_); exact vc0); refine hK _ ?_; clear hK K; refine Run.nq ?_
    refine Run.reK hpin [0, 8, 12, 13] [0, 2] (by decide) (by simp) ?_; simp only [AR, AW7, simprocAttr]
    refine Run.nq ?_; refine Run.regionW hC (fun K hK => ?_); simp (disch := omega) only [wrap_id, AW7, simprocAttr, hX]; (repeat (with_reducible refine And.intro ?_ ?_); exact vc0); refine hK _ ?_; clear hK K; refine Run.nq ?_
    refine Run.le ?_ (ih ((ys', i + 1)) (⟨h4, hN3, by rw [hE3, hz2, ← srt_snoc, hsn]⟩) (by (try simp only [List.length_append, List.length_cons, List.length_nil]); omega))
    exact Le.sub (by rfl) (by simp only [AW7, simprocAttr]; try simp)
  intro h3
  have h3 : k < ys.length := by rw [decide_eq_true_eq] at h3; omega
  have hyp := hR _ (mem_rw2 h3)
  have hgy := rwg ys k
  generalize hgy2 : (ys.getD k (0, [])).2 = y at *
  have hny := hyp.1
  have hy15 : y.length ≤ 15 := by have := hyp.len hc hx.1; omega
  have hWy : wordB c y = true := wordB_iff.2 ⟨hc, hy15, hny.1⟩
  refine Run.nq ?_; refine Run.regionW hC (fun K hK => ?_); simp only [AW7, simprocAttr, hX]; (repeat (with_reducible refine And.intro ?_ ?_); exact vc0)
  simp only [hgy2]
  refine FunA.callW hP hT (c_spec_BruhatCoversR c y hcl) (by simp only [AW7, simprocAttr]) ?_
  rintro rs o ⟨cs, g, nn, rest, ⟨hcs, rfl, rfl⟩, hcn, _, rfl, rfl⟩
  (try simp only [AW7, simprocAttr, hX]); (repeat (with_reducible refine And.intro ?_ ?_); exact vc0)
  (repeat (with_reducible refine And.intro ?_ ?_); exact vc0); refine hK _ ?_; clear hK K; refine Run.nq ?_
  refine Run.nq ?_; refine Run.regionW hC (fun K hK => ?_); simp only [AW7, simprocAttr, hX]; (repeat (with_reducible refine And.intro ?_ ?_); exact vc0); refine hK _ ?_; clear hK K; refine Run.nq ?_
  refine Run.reK hpin [0, 8, 9, 10, 11] [0, 1] (by decide) (by simp) ?_; simp only [AR, AW7, simprocAttr]
  have hbl := bcv_len c y
  have hcsr : ∀ z, z ∈ rw2 cs ↔ z ∈ bcT c y y.length := fun z => by
    rw [hcs]
    unfold bcv
    rw [hWy, if_pos rfl, hny.2.1, (srt_spec _).2]
  rw [← hcs, rwl] at hbl
  refine Run.loopI (X := List (Nat × List Int) × Nat) (fun s => ⟨75, [(0, true, .v (.sl false (.row false) (c))), (8, true, .v (.own 0 0)), (9, true, .v (.int .i64 (k))), (10, true, .v (.own 1 0)), (11, true, .v (.int .i64 (s.2)))], [.arr .lrow (s.1) 0 true, .arr .lrow (cs) 0 true]⟩) (fun s => (k < s.1.length ∧ s.1.length ≤ 200 ∧ s.2 ≤ cs.length) ∧ (rw2 s.1).Nodup ∧ (∀ z ∈ rw2 s.1, Low c x z) ∧ x ∈ rw2 s.1 ∧ DoneV c (rw2 s.1) k ∧ (rw2 s.1).getD k [] = y ∧ ∀ m, m < s.2 → (rw2 cs).getD m [] ∈ rw2 s.1) (fun s => cs.length - s.2) ((ys, 0)) (⟨⟨h3, hyl, Nat.zero_le _⟩, hN, hR, hxm, hD, hgy.symm, fun m hm => absurd hm (Nat.not_lt_zero _)⟩) ?_ ?_
  · exact Le.sub (by first | rfl | simp) (by simp only [AW7, simprocAttr, hX]; try simp <;> try (first | rfl | exact ⟨rfl, rfl⟩ | exact ⟨rfl, rfl, rfl⟩))
  rintro ⟨ys2, i⟩ ⟨⟨hk2, hyl2, hi⟩, hN2, hR2, hxm2, hD2, hyk, hM⟩ ih
  try simp only []
  simp only [] at hk2 hyl2 hi hN2 hR2 hxm2 hD2 hyk hM
  clear hN hR hxm hD
  refine Run.nq ?_; refine Run.regionW hC (fun K hK => ?_); simp only [AW7, simprocAttr, hX]; (repeat (with_reducible refine And.intro ?_ ?_); exact vc0); refine hK _ ?_; clear hK K; refine Run.nq ?_
  refine Run.nq ?_; refine Run.condW (by simp only [AW7, simprocAttr, hX]; rfl) (by simp only [AW7, simprocAttr, hX]) ?_ ?_
  rotate_left
  · intro h4
    have hie : i = cs.length := by rw [decide_eq_false_iff_not] at h4; omega
    have hD3 : DoneV c (rw2 ys2) (k + 1) := by
      intro j hj hjl z hz
      by_cases e : j = k
      · rw [e, hyk] at hz
        obtain ⟨m, hm, e2⟩ := mem_rw2_iff.1 ((hcsr z).2 hz)
        rw [rwg] at e2
        rw [← e2]
        exact hM m (by omega)
      · exact hD2 j (by omega) hjl z hz
    refine Run.exit rfl ?_; refine Run.nq ?_
    refine Run.reK hpin [0, 8, 9] [0] (by decide) (by simp) ?_; simp only [AR, AW7, simprocAttr]
    refine Run.nq ?_; refine Run.regionW hC (fun K hK => ?_); simp (disch := omega) only [wrap_id, AW7, simprocAttr, hX]; (repeat (with_reducible refine And.intro ?_ ?_); exact vc0); refine hK _ ?_; clear hK K; refine Run.nq ?_
    refine Run.le ?_ (ihO ((ys2, k + 1)) (⟨⟨hk2, hyl2⟩, hN2, hR2, hxm2, hD3⟩) (by (try simp only [List.length_append, List.length_cons, List.length_nil]); omega))
    exact Le.sub (by rfl) (by simp only [AW7, simprocAttr]; try simp)
  intro h4
  have h4 : i < cs.length := by rw [decide_eq_true_eq] at h4; omega
  have hzm := (hcsr _).1 (mem_rw2 h4)
  obtain ⟨hlz, _⟩ := bcT_low hc hny hzm
  have hLz := hyp.trans hc hlz hx.1
  have hzg := rwg cs i
  generalize hgz : (cs.getD i (0, [])).2 = z at *
  have hrl : ∀ r ∈ ys2.map (·.2), r.length ≤ 1048576 := fun r hr => by
    have := (hR2 r hr).1.2.2; omega
  have hM3 : ∀ (L : List (List Int)), (∀ t ∈ rw2 ys2, t ∈ L) → z ∈ L → ∀ m, m < i + 1 → (rw2 cs).getD m [] ∈ L := fun L q1 q2 m hm => by
    by_cases e : m = i
    · rw [e, ← hzg]; exact q2
    · exact q1 _ (hM m (by omega))
  refine Run.nq ?_; refine Run.regionW hC (fun K hK => ?_); simp only [AW7, simprocAttr, hX]; (repeat (with_reducible refine And.intro ?_ ?_); exact vc0)
  simp only [hgz]
  refine FunA.callW hP hT (c_spec_l7In (ys2.map (·.2)) z (by simp; omega) hrl) (by simp only [AW7, simprocAttr]) ?_
  rintro rs o ⟨rfl, rfl⟩
  (try simp only [AW7, simprocAttr, hX]); (repeat (with_reducible refine And.intro ?_ ?_); exact vc0)
  (repeat (with_reducible refine And.intro ?_ ?_); exact vc0); refine hK _ ?_; clear hK K; refine Run.nq ?_
  have hmap : ys2.map (·.2) = rw2 ys2 := rfl
  rw [hmap]
  refine Run.nq ?_; refine Run.condW (by simp only [AW7, simprocAttr, hX]; rfl) (by simp only [AW7, simprocAttr, hX]) ?_ ?_
  · intro h5
    have h5 : z ∉ rw2 ys2 := by simpa using h5
    refine Run.nq ?_; refine Run.regionW hC (fun K hK => ?_); simp only [AW7, simprocAttr, hX]; (repeat (with_reducible refine And.intro ?_ ?_); exact vc0); refine hK _ ?_; clear hK K; refine Run.nq ?_
    refine Run.nq ?_; refine Run.condW (by simp only [AW7, simprocAttr, hX]; rfl) (by simp only [AW7, simprocAttr, hX]) ?_ ?_
    · intro h6
      have h6 : 200 ≤ ys2.length := by rw [decide_eq_true_eq] at h6; omega
      obtain ⟨e1, e2⟩ := few_off (L := z :: rw2 ys2) (List.nodup_cons.2 ⟨h5, hN2⟩) (fun t ht => by
        rcases List.mem_cons.1 ht with rfl | ht
        · exact hLz
        · exact hR2 t ht) (by simp [rw2]; omega)
      refine Run.nq ?_; refine Run.regionW hC (fun K hK => ?_); simp only [AW7, simprocAttr, hX]; (repeat (with_reducible refine And.intro ?_ ?_); exact vc0); refine hK _ ?_; clear hK K; refine Run.nq ?_
      refine Run.reK hpin [4, 5] [2] (by decide) (by simp) ?_; simp only [AR, AW7, simprocAttr]
      refine Run.retW [4, 5] (by decide) (by rw [hfn]; rfl) (by simp only [AW7, simprocAttr, hX]; rfl) (by simp only [AW7, simprocAttr, hX]) (hfin _ _ rfl rfl ?_)
      exact ⟨[], 0, true, [.bool false], ⟨by rw [hpX, e2]; rfl, rfl, by rw [hpB, e1]⟩, by simp [lb1], rfl, rfl, rfl⟩
    intro h6
    have h6 : ys2.length < 200 := by rw [decide_eq_false_iff_not] at h6; omega
    refine Run.nq ?_; refine Run.regionW hC (fun K hK => ?_); simp only [AW7, simprocAttr, hX]; (repeat (with_reducible refine And.intro ?_ ?_); exact vc0); refine hK _ ?_; clear hK K; refine Run.nq ?_
    simp only [hgz]
    generalize hgq : (cs.getD i (0, [])).1 = q2
    have hmem : ∀ t, t ∈ rw2 (ys2 ++ [(q2, z)]) ↔ t ∈ rw2 ys2 ∨ t = z := fun t => by rw [rw2_app]; simp [rw2]
    have hget : ∀ j, j < ys2.length → (rw2 (ys2 ++ [(q2, z)])).getD j [] = (rw2 ys2).getD j [] := fun j hj => by
      rw [rw2_app, List.getD_eq_getElem?_getD, List.getElem?_append_left (by rw [rwl]; exact hj), ← List.getD_eq_getElem?_getD]
    have hN3 : (rw2 (ys2 ++ [(q2, z)])).Nodup := by
      rw [rw2_app]
      refine List.nodup_append.2 ⟨hN2, by simp [rw2], fun a ha b hb e => ?_⟩
      simp [rw2] at hb
      rw [e, hb] at ha
      exact h5 ha
    have hR3 : ∀ t ∈ rw2 (ys2 ++ [(q2, z)]), Low c x t := fun t ht => by
      rcases (hmem t).1 ht with ht | rfl
      · exact hR2 t ht
      · exact hLz
    have hD3 : DoneV c (rw2 (ys2 ++ [(q2, z)])) k := fun j hj hjl t ht => by
      rw [hget j (by omega)] at ht
      exact (hmem _).2 (.inl (hD2 j hj (by rw [rwl]; omega) t ht))
    have hyk4 : (rw2 (ys2 ++ [(q2, z)])).getD k [] = y := by rw [hget k hk2]; exact hyk
    refine Run.reK hpin [0, 8, 9, 10, 11] [0, 1] (by decide) (by simp) ?_; simp only [AR, AW7, simprocAttr]
    refine Run.nq ?_; refine Run.regionW hC (fun K hK => ?_); simp (disch := omega) only [wrap_id, AW7, simprocAttr, hX]; (repeat (with_reducible refine And.intro ?_ ?_); exact vc0); refine hK _ ?_; clear hK K; refine Run.nq ?_
    refine Run.le ?_ (ih ((ys2 ++ [(q2, z)], i + 1)) (⟨⟨by simp; omega, by simp; omega, h4⟩, hN3, hR3, (hmem _).2 (.inl hxm2), hD3, hyk4, hM3 _ (fun t ht => (hmem t).2 (.inl ht)) ((hmem z).2 (.inr rfl))⟩) (by (try simp only [List.length_append, List.length_cons, List.length_nil]); omega))
    exact Le.sub (by rfl) (by simp only [AW7, simprocAttr]; try simp)
  intro h5
  have h5 : z ∈ rw2 ys2 := by simpa using h5
  refine Run.reK hpin [0, 8, 9, 10, 11] [0, 1] (by decide) (by simp) ?_; simp only [AR, AW7, simprocAttr]
  refine Run.nq ?_; refine Run.regionW hC (fun K hK => ?_); simp (disch := omega) only [wrap_id, AW7, simprocAttr, hX]; (repeat (with_reducible refine And.intro ?_ ?_); exact vc0); refine hK _ ?_; clear hK K; refine Run.nq ?_
  refine Run.le ?_ (ih ((ys2, i + 1)) (⟨⟨hk2, hyl2, h4⟩, hN2, hR2, hxm2, hD2, hyk, hM3 _ (fun t ht => ht) h5⟩) (by (try simp only [List.length_append, List.length_cons, List.length_nil]); omega))
  exact Le.sub (by rfl) (by simp only [AW7, simprocAttr]; try simp)
theorem c_impl_LowerInterval (c : List (List Int)) (w : List Int) (hcl : c.length ≤ 1048576) :
    FunA B 27 [.sl false (.row false) c, .sl false .int w] (fun rs o => rs = [.own 0 0, .bool (lowB c w)] ∧ ∃ hs, hs.length = (lowX c w).length ∧ o = [.mat hs (lowX c w) 0 true]) :=
  (FunA.mat (by rfl) (post := fun rows nn rest => rows = lowX c w ∧ nn = true ∧ rest = [.bool (lowB c w)]) (c_impl_LowerIntervalR c w hcl)).mono fun rs o ⟨hs, rows, nn, rest, ⟨h1, h2, h3⟩, h4, h5, h6⟩ => by subst h1 h2 h3; exact ⟨h5, hs, h4, h6⟩
theorem c_spec_LowerInterval (c : List (List Int)) (w : List Int) (hcl : c.length ≤ 1048576) :
    FunA B 28 [.sl false (.row false) c, .sl false .int w] (fun rs o => rs = [.own 0 0, .bool (lowB c w)] ∧ ∃ hs, hs.length = (lowX c w).length ∧ o = [.mat hs (lowX c w) 0 true]) :=
  (FunA.mat (by rfl) (post := fun rows nn rest => rows = lowX c w ∧ nn = true ∧ rest = [.bool (lowB c w)]) (c_spec_LowerIntervalR c w hcl)).mono fun rs o ⟨hs, rows, nn, rest, ⟨h1, h2, h3⟩, h4, h5, h6⟩ => by subst h1 h2 h3; exact ⟨h5, hs, h4, h6⟩
end Go.Proofs.YtojcdgdbffmlpaaGreat
namespace Go.Proofs.YtojcdgdbffmlpaaGreat
open Go Go.Aw Go.Cox
noncomputable def itvB (c : List (List Int)) (u v : List Int) : Bool := lowB c v && wordB c u
noncomputable def itvX (c : List (List Int)) (u v : List Int) : List (List Int) := if itvB c u v then (lowX c v).filter (fun x => brB c u x) else []
theorem itvX_mem {c : List (List Int)} {u v z : List Int} (h : z ∈ itvX c u v) : z ∈ lowX c v := by
  unfold itvX at h
  split at h
  · exact (List.mem_filter.1 h).1
  · simp at h
theorem itvX_len (c : List (List Int)) (u v : List Int) : (itvX c u v).length ≤ 200 := by
  unfold itvX
  split
  · have := List.length_filter_le (fun x => brB c u x) (lowX c v)
    have := lowX_len c v
    omega
  · simp
theorem itvX_rows (c : List (List Int)) (u v : List Int) : ∀ r ∈ itvX c u v, r.length ≤ 15 := fun r hr => lowX_rows c v r (itvX_mem hr)
theorem low_word {c : List (List Int)} {w z : List Int} (h : z ∈ lowX c w) : WordP c z ∧ Nf c z := by
  obtain ⟨hw, hp⟩ := lowX_low h
  exact ⟨⟨(wordB_iff.1 hw).1, lowX_rows c w z h, hp.1.1⟩, hp.1⟩
theorem filter_snoc {p : List Int → Bool} (L : List (List Int)) (k : Nat) (h : k < L.length) : (L.take (k + 1)).filter p = if p (L.getD k []) then (L.take k).filter p ++ [L.getD k []] else (L.take k).filter p := by
  rw [← take_snoc [] L k h, List.filter_append]
  generalize L.getD k [] = z
  split <;> rename_i hp <;> simp [hp]
theorem c_impl_IntervalOfR (c : List (List Int)) (u v : List Int) (hcl : c.length ≤ 1048576) :
    FunA B 24 [.sl false (.row false) c, .sl false .int u, .sl false .int v] (fun rs o => ∃ ys g nn rest, (rw2 ys = itvX c u v ∧ nn = true ∧ rest = [.bool (itvB c u v)]) ∧ (lb1 ys).Nodup ∧ rest.all flatAV = true ∧ rs = .own 0 g :: rest ∧ o = [.arr .lrow ys g nn]) := by
  refine FunA.walk B_ok (fn := Tryz.f24) (fun vs w => Tryz.call24 vs w) Tryz.func24 rfl (by rw [Tryz.ntmps24]; simp) (fun C hC hP hT hΓ hbt hfn hpin hfin => ?_); have hX := BX; rw [← hΓ, ← hbt.1, ← hbt.2] at hX; rw [Tryz.ntmps24]; simp only [AW7, simprocAttr, hX]
  refine Run.nq ?_; refine Run.regionW hC (fun K hK => ?_); simp only [AW7, simprocAttr, hX]; (repeat (with_reducible refine And.intro ?_ ?_); exact vc0); refine hK _ ?_; clear hK K; refine Run.nq ?_
  refine Run.nq ?_; refine Run.regionW hC (fun K hK => ?_); simp only [AW7, simprocAttr, hX]; (repeat (with_reducible refine And.intro ?_ ?_); exact vc0)
  refine FunA.callW hP hT (c_impl_LowerIntervalR c v hcl) (by simp only [AW7, simprocAttr]) ?_
  rintro rs o ⟨ys, g, nn, rest, ⟨hys, rfl, rfl⟩, hnd, _, rfl, rfl⟩
  (try simp only [AW7, simprocAttr, hX]); (repeat (with_reducible refine And.intro ?_ ?_); exact vc0)
  (repeat (with_reducible refine And.intro ?_ ?_); exact vc0); refine hK _ ?_; clear hK K; refine Run.nq ?_
  refine Run.nq ?_; refine Run.regionW hC (fun K hK => ?_); simp only [AW7, simprocAttr, hX]; (repeat (with_reducible refine And.intro ?_ ?_); exact vc0)
  refine .inl (FunA.callG hP hT (c_impl_IsWord c u) (fun _ => rfl) (fun _ => by simp only [AW7, simprocAttr]) ?_)
  (try simp only [AW7, simprocAttr, hX]); (repeat (with_reducible refine And.intro ?_ ?_); exact vc0)
  (repeat (with_reducible refine And.intro ?_ ?_); exact vc0); refine hK _ ?_; clear hK K; refine Run.nq ?_
  refine Run.nq ?_; refine Run.condW (by simp only [AW7, simprocAttr, hX]; rfl) (by simp only [AW7, simprocAttr, hX]) ?_ ?_
  · intro h
    have e1 : itvB c u v = false := by
      revert h
      cases hp : lowB c v <;> cases hw : wordB c u <;> simp [itvB, hp, hw]
    refine Run.nq ?_; refine Run.regionW hC (fun K hK => ?_); simp only [AW7, simprocAttr, hX]; (repeat (with_reducible refine And.intro ?_ ?_); exact vc0); refine hK _ ?_; clear hK K; refine Run.nq ?_
    refine Run.reK hpin [6, 7] [1] (by decide) (by simp) ?_; simp only [AR, AW7, simprocAttr]
    refine Run.retW [6, 7] (by decide) (by rw [hfn]; rfl) (by simp only [AW7, simprocAttr, hX]; rfl) (by simp only [AW7, simprocAttr, hX]) (hfin _ _ rfl rfl ?_)
    exact ⟨[], 0, true, [.bool false], ⟨by unfold itvX; rw [e1]; rfl, rfl, by rw [e1]⟩, by simp [lb1], rfl, rfl, rfl⟩
  intro h
  have hl : lowB c v = true := by revert h; cases hp : lowB c v <;> simp
  have hu : wordB c u = true := by revert h; cases hw : wordB c u <;> simp [hl]
  have hI : itvB c u v = true := by simp [itvB, hl, hu]
  have hlen := lowX_len c v
  rw [← hys, rwl] at hlen
  refine Run.nq ?_; refine Run.regionW hC (fun K hK => ?_); simp only [AW7, simprocAttr, hX]; (repeat (with_reducible refine And.intro ?_ ?_); exact vc0); refine hK _ ?_; clear hK K; refine Run.nq ?_
  refine Run.nq ?_; refine Run.regionW hC (fun K hK => ?_); simp only [AW7, simprocAttr, hX]; (repeat (with_reducible refine And.intro ?_ ?_); exact vc0); refine hK _ ?_; clear hK K; refine Run.nq ?_
  refine Run.reK hpin [0, 1, 8, 10, 29, 30, 31] [0, 1] (by decide) (by simp) ?_; simp only [AR, AW7, simprocAttr]
  refine Run.loopI (X := List (Nat × List Int) × Nat) (fun s => ⟨45, [(0, true, .v (.sl false (.row false) (c))), (1, true, .v (.sl false .int (u))), (8, true, .v (.own 0 0)), (10, true, .v (.own 1 0)), (29, true, .v (.own 0 0)), (30, true, .v (.int .i64 (ys.length))), (31, true, .v (.int .i64 (s.2)))], [.arr .lrow (ys) 0 true, .arr .lrow (s.1) 0 true]⟩) (fun s => s.2 ≤ ys.length ∧ (s.1.length ≤ s.2) ∧ (lb1 s.1).Sublist ((lb1 ys).take s.2) ∧ rw2 s.1 = ((rw2 ys).take s.2).filter (fun x => brB c u x)) (fun s => ys.length - s.2) (([], 0)) (⟨Nat.zero_le _, by simp, by simp [lb1], by simp [rw2]⟩) ?_ ?_
  · exact Le.sub (by first | rfl | simp) (by simp only [AW7, simprocAttr, hX]; try simp <;> try (first | rfl | exact ⟨rfl, rfl⟩ | exact ⟨rfl, rfl, rfl⟩))
  rintro ⟨zs, k⟩ ⟨hk, hzl, hz1, hz2⟩ ih
  try simp only []
  simp only [] at hk hzl hz1 hz2
  refine Run.nq ?_; refine Run.regionW hC (fun K hK => ?_); simp only [AW7, simprocAttr, hX]; (repeat (with_reducible refine And.intro ?_ ?_); exact vc0); refine hK _ ?_; clear hK K; refine Run.nq ?_
  refine Run.nq ?_; refine Run.condW (by simp only [AW7, simprocAttr, hX]; rfl) (by simp only [AW7, simprocAttr, hX]) ?_ ?_
  rotate_left
  · intro h2
    have h2 : k = ys.length := by rw [decide_eq_false_iff_not] at h2; omega
    refine Run.exit rfl ?_; refine Run.nq ?_
    refine Run.nq ?_; refine Run.regionW hC (fun K hK => ?_); simp only [AW7, simprocAttr, hX]; (repeat (with_reducible refine And.intro ?_ ?_); exact vc0); refine hK _ ?_; clear hK K; refine Run.nq ?_
    refine Run.reK hpin [6, 7] [1] (by decide) (by simp) ?_; simp only [AR, AW7, simprocAttr]
    refine Run.retW [6, 7] (by decide) (by rw [hfn]; rfl) (by simp only [AW7, simprocAttr, hX]; rfl) (by simp only [AW7, simprocAttr, hX]) (hfin _ _ rfl rfl ?_)
    refine ⟨zs, 0, true, [.bool true], ⟨?_, rfl, by rw [hI]⟩, ?_, rfl, rfl, rfl⟩
    · rw [hz2, h2, show (rw2 ys).take ys.length = rw2 ys from List.take_of_length_le (by rw [rwl]; exact Nat.le_refl _), hys]
      unfold itvX
      rw [hI, if_pos rfl]
    · exact (hz1.trans (List.take_sublist _ _)).nodup hnd
  intro h2
  have h2 : k < ys.length := by rw [decide_eq_true_eq] at h2; omega
  have hin : (rw2 ys).getD k [] ∈ lowX c v := by rw [← hys, ← rwg]; exact mem_rw2 h2
  obtain ⟨wz, nz⟩ := low_word hin
  have hgz := rwg ys k
  have hfs := filter_snoc (p := fun x => brB c u x) (rw2 ys) k (by rw [rwl]; exact h2)
  have hls : (lb1 ys).take (k + 1) = (lb1 ys).take k ++ [(ys.getD k (0, [])).1] := by
    have hk2 : k < (lb1 ys).length := by simp [lb1]; exact h2
    rw [List.take_succ_eq_append_getElem hk2, getD_eq h2]
    simp [lb1]
  rw [← hgz] at hfs wz
  generalize hgx : (ys.getD k (0, [])).2 = z at *
  generalize hgq : (ys.getD k (0, [])).1 = q at *
  refine Run.nq ?_; refine Run.regionW hC (fun K hK => ?_); simp only [AW7, simprocAttr, hX]; (repeat (with_reducible refine And.intro ?_ ?_); exact vc0); refine hK _ ?_; clear hK K; refine Run.nq ?_
  simp only [Int.toNat_natCast, hgx, hgq]
  refine Run.nq ?_; refine Run.regionW hC (fun K hK => ?_); simp only [AW7, simprocAttr, hX]; (repeat (with_reducible refine And.intro ?_ ?_); exact vc0)
  refine FunA.callW hP hT (c_impl_below c u z (wordB_iff.1 hu) wz) (by simp only [AW7, simprocAttr]) ?_
  rintro rs o ⟨rfl, rfl⟩
  (try simp only [AW7, simprocAttr, hX]); (repeat (with_reducible refine And.intro ?_ ?_); exact vc0)
  (repeat (with_reducible refine And.intro ?_ ?_); exact vc0); refine hK _ ?_; clear hK K; refine Run.nq ?_
  have hbr : brB c u z = belB c (imageL c u) (redL c z) := by simp [brB, hu, wordB_iff.2 wz]
  refine Run.nq ?_; refine Run.condW (by simp only [AW7, simprocAttr, hX]; rfl) (by simp only [AW7, simprocAttr, hX]) ?_ ?_
  · intro h3
    have h3 : brB c u z = true := by rw [hbr]; exact h3
    refine Run.nq ?_; refine Run.regionW hC (fun K hK => ?_); simp only [AW7, simprocAttr, hX]; (repeat (with_reducible refine And.intro ?_ ?_); exact vc0); refine hK _ ?_; clear hK K; refine Run.nq ?_
    rw [if_pos h3] at hfs
    refine Run.reK hpin [0, 1, 8, 10, 29, 30, 31] [0, 1] (by decide) (by simp) ?_; simp only [AR, AW7, simprocAttr]
    refine Run.nq ?_; refine Run.regionW hC (fun K hK => ?_); simp (disch := omega) only [wrap_id, AW7, simprocAttr, hX]; (repeat (with_reducible refine And.intro ?_ ?_); exact vc0); refine hK _ ?_; clear hK K; refine Run.nq ?_
    refine Run.le ?_ (ih ((zs ++ [(q, z)], k + 1)) (⟨h2, by simp; omega, by rw [lb1_app, hls]; exact hz1.append (List.Sublist.refl _), by rw [rw2_app, hfs, hz2]; rfl⟩) (by (try simp only [List.length_append, List.length_cons, List.length_nil]); omega))
    exact Le.sub (by rfl) (by simp only [AW7, simprocAttr]; try simp)
  intro h3
  have h3 : ¬ brB c u z = true := by rw [hbr]; have h3 : belB c (imageL c u) (redL c z) = false := h3; rw [h3]; simp
  rw [if_neg h3] at hfs
  refine Run.reK hpin [0, 1, 8, 10, 29, 30, 31] [0, 1] (by decide) (by simp) ?_; simp only [AR, AW7, simprocAttr]
  refine Run.nq ?_; refine Run.regionW hC (fun K hK => ?_); simp (disch := omega) only [wrap_id, AW7, simprocAttr, hX]; (repeat (with_reducible refine And.intro ?_ ?_); exact vc0); refine hK _ ?_; clear hK K; refine Run.nq ?_
  refine Run.le ?_ (ih ((zs, k + 1)) (⟨h2, by simp only []; omega, by rw [hls]; exact hz1.trans (List.sublist_append_left _ _), by rw [hfs, hz2]⟩) (by (try simp only [List.length_append, List.length_cons, List.length_nil]); omega))
  exact Le.sub (by rfl) (by simp only [AW7, simprocAttr]; try simp)
theorem c_spec_IntervalOfR (c : List (List Int)) (u v : List Int) (hcl : c.length ≤ 1048576) :
    FunA B 25 [.sl false (.row false) c, .sl false .int u, .sl false .int v] (fun rs o => ∃ ys g nn rest, (rw2 ys = itvX c u v ∧ nn = true ∧ rest = [.bool (itvB c u v)]) ∧ (lb1 ys).Nodup ∧ rest.all flatAV = true ∧ rs = .own 0 g :: rest ∧ o = [.arr .lrow ys g nn]) := by
  refine FunA.walk B_ok (fn := Tryz.f25) (fun vs w => Tryz.call25 vs w) Tryz.func25 rfl (by rw [Tryz.ntmps25]; simp) (fun C hC hP hT hΓ hbt hfn hpin hfin => ?_); have hX := BX; rw [← hΓ, ← hbt.1, ← hbt.2] at hX; rw [Tryz.ntmps25]; simp only [AW7, simprocAttr, hX]
  refine Run.nq ?_; refine Run.regionW hC (fun K hK => ?_); simp only [AW7, simprocAttr, hX]; (repeat (with_reducible refine And.intro ?_ ?_); exact vc0); refine hK _ ?_; clear hK K; refine Run.nq ?_
  refine Run.nq ?_; refine Run.regionW hC (fun K hK => ?_); simp only [AW7, simprocAttr, hX]; (repeat (with_reducible refine And.intro ?_ ?_); exact vc0); refine hK _ ?_; clear hK K; refine Run.nq ?_
  refine Run.nq ?_; refine Run.regionW hC (fun K hK => ?_); simp only [AW7, simprocAttr, hX]; (repeat (with_reducible refine And.intro ?_ ?_); exact vc0)
  refine FunA.callW hP hT (c_spec_LowerIntervalR c v hcl) (by simp only [AW7, simprocAttr]) ?_
  rintro rs o ⟨ys, g, nn, rest, ⟨hys, rfl, rfl⟩, hnd, _, rfl, rfl⟩
  (try simp only [AW7, simprocAttr, hX]); (repeat (with_reducible refine And.intro ?_ ?_); exact vc0)
  (repeat (with_reducible refine And.intro ?_ ?_); exact vc0); refine hK _ ?_; clear hK K; refine Run.nq ?_
  refine Run.nq ?_; refine Run.regionW hC (fun K hK => ?_); simp only [AW7, simprocAttr, hX]; (repeat (with_reducible refine And.intro ?_ ?_); exact vc0)
  refine .inl (FunA.callG hP hT (c_spec_IsWord c u hcl) (fun _ => rfl) (fun _ => by simp only [AW7, simprocAttr]) ?_)
  (try simp only [AW7, simprocAttr, hX]); (repeat (with_reducible refine And.intro ?_ ?_); exact vc0)
  (repeat (with_reducible refine And.intro ?_ ?_); exact vc0); refine hK _ ?_; clear hK K; refine Run.nq ?_
  refine Run.nq ?_; refine Run.condW (by simp only [AW7, simprocAttr, hX]; rfl) (by simp only [AW7, simprocAttr, hX]) ?_ ?_
  · intro h
    have e1 : itvB c u v = false := by
      revert h
      cases hp : lowB c v <;> cases hw : wordB c u <;> simp [itvB, hp, hw]
    refine Run.nq ?_; refine Run.regionW hC (fun K hK => ?_); simp only [AW7, simprocAttr, hX]; (repeat (with_reducible refine And.intro ?_ ?_); exact vc0); refine hK _ ?_; clear hK K; refine Run.nq ?_
    refine Run.reK hpin [6, 7] [0] (by decide) (by simp) ?_; simp only [AR, AW7, simprocAttr]
    refine Run.retW [6, 7] (by decide) (by rw [hfn]; rfl) (by simp only [AW7, simprocAttr, hX]; rfl) (by simp only [AW7, simprocAttr, hX]) (hfin _ _ rfl rfl ?_)
    exact ⟨[], 0, true, [.bool false], ⟨by unfold itvX; rw [e1]; rfl, rfl, by rw [e1]⟩, by simp [lb1], rfl, rfl, rfl⟩
  intro h
  have hl : lowB c v = true := by revert h; cases hp : lowB c v <;> simp
  have hu : wordB c u = true := by revert h; cases hw : wordB c u <;> simp [hl]
  have hI : itvB c u v = true := by simp [itvB, hl, hu]
  have hlen := lowX_len c v
  rw [← hys, rwl] at hlen
  refine Run.nq ?_; refine Run.regionW hC (fun K hK => ?_); simp only [AW7, simprocAttr, hX]; (repeat (with_reducible refine And.intro ?_ ?_); exact vc0); refine hK _ ?_; clear hK K; refine Run.nq ?_
  refine Run.reK hpin [0, 1, 8, 9, 11] [1, 0] (by decide) (by simp) ?_; simp only [AR, AW7, simprocAttr]
  refine Run.loopI (X := List (Nat × List Int) × Nat) (fun s => ⟨49, [(0, true, .v (.sl false (.row false) (c))), (1, true, .v (.sl false .int (u))), (8, true, .v (.own 1 0)), (9, true, .v (.own 0 0)), (11, true, .v (.int .i64 (s.2)))], [.arr .lrow (ys) 0 true, .arr .lrow (s.1) 0 true]⟩) (fun s => s.2 ≤ ys.length ∧ (s.1.length ≤ s.2) ∧ (lb1 s.1).Sublist ((lb1 ys).take s.2) ∧ rw2 s.1 = ((rw2 ys).take s.2).filter (fun x => brB c u x)) (fun s => ys.length - s.2) (([], 0)) (⟨Nat.zero_le _, by simp, by simp [lb1], by simp [rw2]⟩) ?_ ?_
  · exact Le.sub (by first | rfl | simp) (by simp only [AW7, simprocAttr, hX]; try simp <;> try (first | rfl | exact ⟨rfl, rfl⟩ | exact ⟨rfl, rfl, rfl⟩))
  rintro ⟨zs, k⟩ ⟨hk, hzl, hz1, hz2⟩ ih
  try simp only []
  simp only [] at hk hzl hz1 hz2
  refine Run.nq ?_; refine Run.regionW hC (fun K hK => ?_); simp only [AW7, simprocAttr, hX]; (repeat (with_reducible refine And.intro ?_ ?_); exact vc0); refine hK _ ?_; clear hK K; refine Run.nq ?_
  refine Run.nq ?_; refine Run.condW (by simp only [AW7, simprocAttr, hX]; rfl) (by simp only [AW7, simprocAttr, hX]) ?_ ?_
  rotate_left
  · intro h2
    have h2 : k = ys.length := by rw [decide_eq_false_iff_not] at h2; omega
    refine Run.exit rfl ?_; refine Run.nq ?_
    refine Run.nq ?_; refine Run.regionW hC (fun K hK => ?_); simp only [AW7, simprocAttr, hX]; (repeat (with_reducible refine And.intro ?_ ?_); exact vc0); refine hK _ ?_; clear hK K; refine Run.nq ?_
    refine Run.reK hpin [6, 7] [1] (by decide) (by simp) ?_; simp only [AR, AW7, simprocAttr]
    refine Run.retW [6, 7] (by decide) (by rw [hfn]; rfl) (by simp only [AW7, simprocAttr, hX]; rfl) (by simp only [AW7, simprocAttr, hX]) (hfin _ _ rfl rfl ?_)
    refine ⟨zs, 0, true, [.bool true], ⟨?_, rfl, by rw [hI]⟩, ?_, rfl, rfl, rfl⟩
    · rw [hz2, h2, show (rw2 ys).take ys.length = rw2 ys from List.take_of_length_le (by rw [rwl]; exact Nat.le_refl _), hys]
      unfold itvX
      rw [hI, if_pos rfl]
    · exact (hz1.trans (List.take_sublist _ _)).nodup hnd
  intro h2
  have h2 : k < ys.length := by rw [decide_eq_true_eq] at h2; omega
  have hgz := rwg ys k
  have hfs := filter_snoc (p := fun x => brB c u x) (rw2 ys) k (by rw [rwl]; exact h2)
  have hls : (lb1 ys).take (k + 1) = (lb1 ys).take k ++ [(ys.getD k (0, [])).1] := by
    have hk2 : k < (lb1 ys).length := by simp [lb1]; exact h2
    rw [List.take_succ_eq_append_getElem hk2, getD_eq h2]
    simp [lb1]
  rw [← hgz] at hfs
  generalize hgx : (ys.getD k (0, [])).2 = z at *
  generalize hgq : (ys.getD k (0, [])).1 = q at *
  refine Run.nq ?_; refine Run.regionW hC (fun K hK => ?_); simp only [AW7, simprocAttr, hX]; (repeat (with_reducible refine And.intro ?_ ?_); exact vc0)
  simp only [Int.toNat_natCast, hgx, hgq]
  refine FunA.callW hP hT (c_spec_IsBruhatBelow c u z hcl) (by simp only [AW7, simprocAttr]) ?_
  rintro rs o ⟨rfl, rfl⟩
  (try simp only [AW7, simprocAttr, hX]); (repeat (with_reducible refine And.intro ?_ ?_); exact vc0)
  (repeat (with_reducible refine And.intro ?_ ?_); exact vc0); refine hK _ ?_; clear hK K; refine Run.nq ?_
  refine Run.nq ?_; refine Run.condW (by simp only [AW7, simprocAttr, hX]; rfl) (by simp only [AW7, simprocAttr, hX]) ?_ ?_
  · intro h3
    have h3 : brB c u z = true := h3
    refine Run.nq ?_; refine Run.regionW hC (fun K hK => ?_); simp only [AW7, simprocAttr, hX]; (repeat (with_reducible refine And.intro ?_ ?_); exact vc0); refine hK _ ?_; clear hK K; refine Run.nq ?_
    simp only [Int.toNat_natCast, hgx, hgq]
    rw [if_pos h3] at hfs
    refine Run.reK hpin [0, 1, 8, 9, 11] [0, 1] (by decide) (by simp) ?_; simp only [AR, AW7, simprocAttr]
    refine Run.nq ?_; refine Run.regionW hC (fun K hK => ?_); simp (disch := omega) only [wrap_id, AW7, simprocAttr, hX]; (repeat (with_reducible refine And.intro ?_ ?_); exact vc0); refine hK _ ?_; clear hK K; refine Run.nq ?_
    refine Run.le ?_ (ih ((zs ++ [(q, z)], k + 1)) (⟨h2, by simp; omega, by rw [lb1_app, hls]; exact hz1.append (List.Sublist.refl _), by rw [rw2_app, hfs, hz2]; rfl⟩) (by (try simp only [List.length_append, List.length_cons, List.length_nil]); omega))
    exact Le.sub (by rfl) (by simp only [AW7, simprocAttr]; try simp)
  intro h3
  have h3 : ¬ brB c u z = true := by have h3 : brB c u z = false := h3; rw [h3]; simp
  rw [if_neg h3] at hfs
  refine Run.reK hpin [0, 1, 8, 9, 11] [0, 1] (by decide) (by simp) ?_; simp only [AR, AW7, simprocAttr]
  refine Run.nq ?_; refine Run.regionW hC (fun K hK => ?_); simp (disch := omega) only [wrap_id, AW7, simprocAttr, hX]; (repeat (with_reducible refine And.intro ?_ ?_); exact vc0); refine hK _ ?_; clear hK K; refine Run.nq ?_
  refine Run.le ?_ (ih ((zs, k + 1)) (⟨h2, by simp only []; omega, by rw [hls]; exact hz1.trans (List.sublist_append_left _ _), by rw [hfs, hz2]⟩) (by (try simp only [List.length_append, List.length_cons, List.length_nil]); omega))
  exact Le.sub (by rfl) (by simp only [AW7, simprocAttr]; try simp)
theorem c_impl_IntervalOf (c : List (List Int)) (u v : List Int) (hcl : c.length ≤ 1048576) :
    FunA B 24 [.sl false (.row false) c, .sl false .int u, .sl false .int v] (fun rs o => rs = [.own 0 0, .bool (itvB c u v)] ∧ ∃ hs, hs.length = (itvX c u v).length ∧ o = [.mat hs (itvX c u v) 0 true]) :=
  (FunA.mat (by rfl) (post := fun rows nn rest => rows = itvX c u v ∧ nn = true ∧ rest = [.bool (itvB c u v)]) (c_impl_IntervalOfR c u v hcl)).mono fun rs o ⟨hs, rows, nn, rest, ⟨h1, h2, h3⟩, h4, h5, h6⟩ => by subst h1 h2 h3; exact ⟨h5, hs, h4, h6⟩
theorem c_spec_IntervalOf (c : List (List Int)) (u v : List Int) (hcl : c.length ≤ 1048576) :
    FunA B 25 [.sl false (.row false) c, .sl false .int u, .sl false .int v] (fun rs o => rs = [.own 0 0, .bool (itvB c u v)] ∧ ∃ hs, hs.length = (itvX c u v).length ∧ o = [.mat hs (itvX c u v) 0 true]) :=
  (FunA.mat (by rfl) (post := fun rows nn rest => rows = itvX c u v ∧ nn = true ∧ rest = [.bool (itvB c u v)]) (c_spec_IntervalOfR c u v hcl)).mono fun rs o ⟨hs, rows, nn, rest, ⟨h1, h2, h3⟩, h4, h5, h6⟩ => by subst h1 h2 h3; exact ⟨h5, hs, h4, h6⟩
end Go.Proofs.YtojcdgdbffmlpaaGreat
namespace Go.Proofs.YtojcdgdbffmlpaaGreat
open Go Go.Aw Go.Cox
def eps (z : List Int) : Int := if z.length % 2 = 0 then 1 else -1
theorem eps_cases (z : List Int) : eps z = 1 ∨ eps z = -1 := by unfold eps; split <;> simp
theorem eps_flip {a b : List Int} (h : a.length % 2 ≠ b.length % 2) : eps a = - eps b := by
  unfold eps
  split <;> split <;> omega
def sumE (M : List (List Int)) : Int := (M.map eps).sum
theorem sum_perm {A B : List (List Int)} (h : A.Perm B) : sumE A = sumE B := by
  unfold sumE
  induction h with
  | nil => rfl
  | cons x _ ih => simp [ih]
  | swap x y l => simp only [List.map_cons, List.sum_cons]; omega
  | trans _ _ ih1 ih2 => exact ih1.trans ih2
theorem sum_same {A B : List (List Int)} (ha : A.Nodup) (hb : B.Nodup) (h : ∀ z, z ∈ A ↔ z ∈ B) : sumE A = sumE B := sum_perm ((List.perm_ext_iff_of_nodup ha hb).2 h)
theorem sum_split (p : List Int → Bool) : ∀ (A : List (List Int)), sumE A = sumE (A.filter p) + sumE (A.filter fun z => !p z)
  | [] => rfl
  | z :: A => by
    have ih := sum_split p A
    unfold sumE at ih ⊢
    cases h : p z <;> simp [h, ih] <;> omega
theorem sum_inv {A : List (List Int)} (ha : A.Nodup) (f : List Int → List Int) (h1 : ∀ z ∈ A, f z ∈ A) (h2 : ∀ z ∈ A, f (f z) = z) (h3 : ∀ z ∈ A, eps (f z) = - eps z) : sumE A = 0 := by
  have hn : (A.map f).Nodup := by
    refine List.pairwise_map.2 ?_
    refine List.Pairwise.imp_of_mem (R := fun a b => a ≠ b) (fun {a b} ha hb h e => h ?_) ha
    rw [← h2 a ha, ← h2 b hb, e]
  have hs := sum_same ha hn (fun z => by
    rw [List.mem_map]
    constructor
    · intro hz; exact ⟨f z, h1 z hz, h2 z hz⟩
    · rintro ⟨y, hy, rfl⟩; exact h1 y hy)
  have hm : ∀ (B : List (List Int)), (∀ z ∈ B, eps (f z) = - eps z) → sumE (B.map f) = - sumE B := by
    intro B
    induction B with
    | nil => intro _; rfl
    | cons z B ih =>
      intro hB
      have h4 := ih fun y hy => hB y (List.mem_cons_of_mem _ hy)
      have h5 := hB z (List.mem_cons_self ..)
      unfold sumE at h4 ⊢
      simp only [List.map_cons, List.sum_cons, h5, h4]
      omega
  rw [hm A h3] at hs
  omega
def subs : List Int → List (List Int)
  | [] => [[]]
  | a :: l => subs l ++ (subs l).map (a :: ·)
theorem subs_mem : ∀ {l u : List Int}, u ∈ subs l ↔ u.Sublist l
  | [], u => by simp [subs]
  | a :: l, u => by
    simp only [subs, List.mem_append, List.mem_map]
    rw [List.sublist_cons_iff]
    constructor
    · rintro (h | ⟨r, hr, rfl⟩)
      · exact .inl (subs_mem.1 h)
      · exact .inr ⟨r, rfl, subs_mem.1 hr⟩
    · rintro (h | ⟨r, rfl, hr⟩)
      · exact .inl (subs_mem.2 h)
      · exact .inr ⟨r, subs_mem.2 hr, rfl⟩
def Btw (c : List (List Int)) (u y z : List Int) : Prop := Low c y z ∧ SubI c z (imageL c u)
open Classical in
noncomputable def btwL (c : List (List Int)) (u y : List Int) : List (List Int) := (srt ((subs y).map (redL c))).filter fun z => decide (SubI c z (imageL c u))
theorem strict_nodup {L : List (List Int)} (h : StrictW L) : L.Nodup := List.Pairwise.imp (fun {a b} h e => by rw [e, cmpW_self] at h; omega) h
theorem btwL_nodup (c : List (List Int)) (u y : List Int) : (btwL c u y).Nodup := List.Pairwise.filter _ (strict_nodup (srt_spec _).1)
theorem btwL_mem {c : List (List Int)} (hc : CartanP c) {u y : List Int} (hy : letters c.length y) (hl : y.length ≤ 30) (z : List Int) : z ∈ btwL c u y ↔ Btw c u y z := by
  classical
  unfold btwL Btw
  rw [List.mem_filter, (srt_spec _).2, List.mem_map]
  simp only [decide_eq_true_eq]
  refine and_congr ⟨?_, ?_⟩ Iff.rfl
  · rintro ⟨s, hs, rfl⟩
    have h1 := subs_mem.1 hs
    have h2 := letters_sub h1 hy
    have h3 := h1.length_le
    obtain ⟨a1, a2, a3, a4, a5⟩ := red_spec hc h2 (by omega)
    exact ⟨nf_red hc h2 (by omega) (by omega), s, h1, a4.symm⟩
  · rintro ⟨hn, s, hs, he⟩
    exact ⟨s, subs_mem.2 hs, by rw [red_eq he]; exact hn.2.1⟩
theorem flip_nf {c : List (List Int)} (hc : CartanP c) {i : Int} (hi : 0 ≤ i ∧ i < c.length) {z : List Int} (hz : Nf c z) (hl : z.length ≤ 29) : Nf c (redL c (i :: z)) ∧ imageL c (redL c (i :: z)) = reflL c i (imageL c z) ∧ (redL c (i :: z)).length % 2 ≠ z.length % 2 ∧ redL c (i :: redL c (i :: z)) = z := by
  have hlet : letters c.length (i :: z) := letters_cons.2 ⟨hi, hz.1⟩
  obtain ⟨a1, a2, a3, a4, a5⟩ := red_spec hc hlet (by simp; omega)
  simp at a2 a3
  have e : imageL c (i :: redL c (i :: z)) = imageL c z := by rw [image_cons, a4, image_cons, refl2 hc hi (imageL_length c z)]
  exact ⟨nf_red hc hlet (by simp; omega) (by omega), by rw [a4, image_cons], by omega, by rw [red_eq e]; exact hz.2.1⟩
theorem sub_flip {c : List (List Int)} (hc : CartanP c) {i : Int} {y1 : List Int} (hy : letters c.length (i :: y1)) {v : List Int} (hv : v.length = c.length) (hnz : v.getD i.toNat 0 ≠ 0) (h : SubI c (i :: y1) v) : SubI c (i :: y1) (reflL c i v) := by
  obtain ⟨hi, _⟩ := letters_cons.1 hy
  have e := refl_at' hc hi hv
  have hl : (reflL c i v).length = c.length := by rw [reflL_length, hv]
  rw [sub_cons hc hy hv] at h
  rw [sub_cons hc hy hl]
  split at h
  · rw [if_neg (by omega)]; exact h
  · rw [if_pos (by omega), refl2 hc hi hv]; exact h
theorem nz_of {c : List (List Int)} (hc : CartanP c) {z : List Int} (hz : letters c.length z) {i : Int} (hi : 0 ≤ i ∧ i < c.length) : (imageL c z).getD i.toNat 0 ≠ 0 := by
  obtain ⟨L, _, _, k3⟩ := Far.image hc hz
  exact k3.nz hc i.toNat (by omega)
theorem word_of {c : List (List Int)} (hc : CartanP c) {i : Int} (hi : 0 ≤ i ∧ i < c.length) {z : List Int} (hz : Nf c z) (hneg : (imageL c z).getD i.toNat 0 < 0) : ∃ z1, Nf c z1 ∧ imageL c z1 = reflL c i (imageL c z) ∧ z1.length + 1 = z.length ∧ letters c.length (i :: z1) ∧ imageL c (i :: z1) = imageL c z ∧ Red c (i :: z1) := by
  have hlet : letters c.length (i :: z) := letters_cons.2 ⟨hi, hz.1⟩
  have hlen : (i :: z).length ≤ 31 := by have := hz.2.2; simp; omega
  obtain ⟨a1, a2, a3, a4, a5⟩ := red_spec hc hlet hlen
  obtain ⟨M, hM, hF⟩ := (hz.far hc).down hc hi hneg
  have hL : (redL c (i :: z)).length = M := by
    rw [image_cons] at a5
    exact a5.uniq hc hF
  have e1 : imageL c (i :: redL c (i :: z)) = imageL c z := by rw [image_cons, a4, image_cons, refl2 hc hi (imageL_length c z)]
  have hl2 : letters c.length (i :: redL c (i :: z)) := letters_cons.2 ⟨hi, a1⟩
  exact ⟨redL c (i :: z), nf_red hc hlet hlen (by have := hz.2.2; omega), by rw [a4, image_cons], by omega, hl2, e1, Red.of hc hl2 (hz.red hc) e1 (by simp; omega)⟩
theorem Nf.tail {c : List (List Int)} (hc : CartanP c) {i : Int} {y1 : List Int} (h : Nf c (i :: y1)) : Nf c y1 := by
  have hb := h.2.2
  simp at hb
  obtain ⟨hi, hl⟩ := letters_cons.1 h.1
  refine ⟨hl, ?_, by omega⟩
  have hR := Red.tail hc (a := [i]) (by omega) (h.red hc)
  have h2 : nfL c 31 (imageL c (i :: y1)) = i :: y1 := h.2.1
  have hf : fstN (imageL c (i :: y1)) = i ∧ nfL c 30 (reflL c (fstN (imageL c (i :: y1))) (imageL c (i :: y1))) = y1 := by
    have h3 : (if fstN (imageL c (i :: y1)) < 0 then [] else fstN (imageL c (i :: y1)) :: nfL c 30 (reflL c (fstN (imageL c (i :: y1))) (imageL c (i :: y1)))) = i :: y1 := h2
    split at h3
    · cases h3
    · exact ⟨(List.cons.inj h3).1, (List.cons.inj h3).2⟩
  obtain ⟨e1, e2⟩ := hf
  rw [e1, image_cons, refl2 hc hi (imageL_length c y1)] at e2
  show nfL c 31 (imageL c y1) = y1
  rw [nfL_more hc 31 30 _ hR.2 (by omega) (by omega)]
  exact e2
theorem verma {c : List (List Int)} (hc : CartanP c) : ∀ (n : Nat) (u y : List Int), y.length = n → n ≤ 29 → Nf c u → Nf c y → SubI c y (imageL c u) → u ≠ y → sumE (btwL c u y) = 0 := by
  intro n
  induction n with
  | zero =>
    intro u y hy _ hu hny hs hne
    exfalso
    have : y = [] := List.eq_nil_of_length_eq_zero hy
    subst this
    exact hne ((Low.none hc u).1 ⟨hu, hs⟩)
  | succ n ih =>
    intro u y hyn hn hu hy hs hne
    cases y with
    | nil => simp at hyn
    | cons i y1 =>
      simp at hyn
      obtain ⟨hi, hl1⟩ := letters_cons.1 hy.1
      have hy1 := hy.tail hc
      have hyneg : (imageL c (i :: y1)).getD i.toNat 0 < 0 := by
        rw [image_cons, refl_at' hc hi (imageL_length c y1)]
        have := Red.pos hc (hy.red hc)
        omega
      have hlen : ∀ {z : List Int}, Low c (i :: y1) z → z.length ≤ n + 1 := fun h => by
        have := h.len hc hy.1
        simp at this
        omega
      have caseA : ∀ u, Nf c u → 0 < (imageL c u).getD i.toNat 0 → sumE (btwL c u (i :: y1)) = 0 := by
        intro u hu hpos
        have mem := fun z => btwL_mem (u := u) hc hy.1 (by have := hy.2.2; omega) z
        refine sum_inv (btwL_nodup c u _) (fun z => redL c (i :: z)) (fun z hz => ?_) (fun z hz => ?_) (fun z hz => ?_)
        · obtain ⟨h1, h2⟩ := (mem z).1 hz
          have hzl := hlen h1
          obtain ⟨f1, f2, f3, f4⟩ := flip_nf hc hi h1.1 (by omega)
          have hnz := nz_of hc h1.1.1 hi
          refine (mem _).2 ⟨⟨f1, by rw [f2]; exact sub_flip hc hy.1 (imageL_length c z) hnz h1.2⟩, ?_⟩
          by_cases hneg : (imageL c z).getD i.toNat 0 < 0
          · obtain ⟨z1, w1, w2, w3, w4, w5, w6⟩ := word_of hc hi h1.1 hneg
            have h3 := sub_word hc (h1.1.red hc) h1.1.2.2 w4 w5 h2
            rw [sub_cons hc w4 (imageL_length c u), if_neg (by omega)] at h3
            have : redL c (i :: z) = z1 := nf_same f1 w1 (by rw [f2, w2])
            rw [this]
            exact h3
          · have hup := (h1.1.red hc).up hc hi (by omega)
            have h3 : SubI c (i :: z) (imageL c u) := h2.mono (List.sublist_cons_self i z)
            exact sub_word hc hup (by simp; omega) f1.1 (by rw [f2, image_cons]) h3
        · obtain ⟨h1, _⟩ := (mem z).1 hz
          have hzl := hlen h1
          exact (flip_nf hc hi h1.1 (by omega)).2.2.2
        · obtain ⟨h1, _⟩ := (mem z).1 hz
          have hzl := hlen h1
          exact eps_flip (flip_nf hc hi h1.1 (by omega)).2.2.1
      by_cases hneg : (imageL c u).getD i.toNat 0 < 0
      · obtain ⟨u1, w1, w2, w3, w4, w5, w6⟩ := word_of hc hi hu hneg
        have hu1pos : 0 < (imageL c u1).getD i.toNat 0 := by rw [w2, refl_at' hc hi (imageL_length c u)]; omega
        have hA := caseA u1 w1 hu1pos
        have hu1y : SubI c y1 (imageL c u1) := by
          rw [sub_cons hc hy.1 (imageL_length c u), if_pos hneg] at hs
          rw [w2]; exact hs
        have hne1 : u1 ≠ y1 := fun e => hne (nf_same hu hy (by rw [image_cons, ← e, w2, refl2 hc hi (imageL_length c u)]))
        have B1 := ih u1 y1 (by omega) (by omega) w1 hy1 hu1y hne1
        have B2 : sumE (btwL c u y1) = 0 := by
          by_cases hle : SubI c y1 (imageL c u)
          · refine ih u y1 (by omega) (by omega) hu hy1 hle (fun e => ?_)
            have := Red.pos hc (hy.red hc)
            rw [← e] at this
            omega
          · have : btwL c u y1 = [] := by
              cases hb : btwL c u y1 with
              | nil => rfl
              | cons z l =>
                exfalso
                obtain ⟨h1, h2⟩ := (btwL_mem (u := u) hc hl1 (by have := hy1.2.2; omega) z).1 (hb ▸ List.mem_cons_self ..)
                exact hle (Low.trans hc h1 ⟨hu, h2⟩ hl1).2
            rw [this]; rfl
        have u1u : SubI c u (imageL c u1) := by
          have : SubI c (i :: u1) (imageL c u1) := (SubI.self c u1).mono (List.sublist_cons_self i u1)
          exact sub_word hc w6 (by simp; have := hu.2.2; omega) hu.1 w5.symm this
        have above : ∀ z, Nf c z → SubI c z (imageL c u) → SubI c z (imageL c u1) := fun z hz h => (Low.trans hc (x := z) ⟨hu, h⟩ ⟨w1, u1u⟩ hz.1).2
        have key : ∀ z, Nf c z → (imageL c z).getD i.toNat 0 < 0 → SubI c z (imageL c u1) → SubI c z (imageL c u) := by
          intro z hz hzn h
          obtain ⟨z1, q1, q2, q3, q4, q5, q6⟩ := word_of hc hi hz hzn
          have h3 := sub_word hc (hz.red hc) hz.2.2 q4 q5 h
          rw [sub_cons hc q4 (imageL_length c u1), if_neg (by omega)] at h3
          have h4 : SubI c (i :: z1) (imageL c u) := by
            rw [sub_cons hc q4 (imageL_length c u), if_pos hneg, ← w2]; exact h3
          exact sub_word hc q6 (by simp; have := hz.2.2; omega) hz.1 q5.symm h4
        have down : ∀ z, Low c y1 z → Low c (i :: y1) z := fun z h => ⟨h.1, h.2.mono (List.sublist_cons_self i y1)⟩
        have m0 := fun z => btwL_mem (u := u) hc hy.1 (by have := hy.2.2; omega) z
        have m1 := fun z => btwL_mem (u := u1) hc hy.1 (by have := hy.2.2; omega) z
        have m2 := fun z => btwL_mem (u := u) hc hl1 (by have := hy1.2.2; omega) z
        have m3 := fun z => btwL_mem (u := u1) hc hl1 (by have := hy1.2.2; omega) z
        classical
        have s1 := sum_split (fun z => decide (SubI c z (imageL c u))) (btwL c u1 (i :: y1))
        have s2 := sum_split (fun z => decide (SubI c z (imageL c u))) (btwL c u1 y1)
        have e1 : sumE ((btwL c u1 (i :: y1)).filter fun z => decide (SubI c z (imageL c u))) = sumE (btwL c u (i :: y1)) := by
          refine sum_same (List.Pairwise.filter _ (btwL_nodup ..)) (btwL_nodup ..) fun z => ?_
          rw [List.mem_filter, m1, m0, decide_eq_true_iff]
          exact ⟨fun ⟨⟨h1, _⟩, h2⟩ => ⟨h1, h2⟩, fun ⟨h1, h2⟩ => ⟨⟨h1, above z h1.1 h2⟩, h2⟩⟩
        have e2 : sumE ((btwL c u1 y1).filter fun z => decide (SubI c z (imageL c u))) = sumE (btwL c u y1) := by
          refine sum_same (List.Pairwise.filter _ (btwL_nodup ..)) (btwL_nodup ..) fun z => ?_
          rw [List.mem_filter, m3, m2, decide_eq_true_iff]
          exact ⟨fun ⟨⟨h1, _⟩, h2⟩ => ⟨h1, h2⟩, fun ⟨h1, h2⟩ => ⟨⟨h1, above z h1.1 h2⟩, h2⟩⟩
        have e3 : sumE ((btwL c u1 (i :: y1)).filter fun z => !decide (SubI c z (imageL c u))) = sumE ((btwL c u1 y1).filter fun z => !decide (SubI c z (imageL c u))) := by
          refine sum_same (List.Pairwise.filter _ (btwL_nodup ..)) (List.Pairwise.filter _ (btwL_nodup ..)) fun z => ?_
          rw [List.mem_filter, List.mem_filter, m1, m3]
          constructor
          · rintro ⟨⟨h1, h2⟩, h3⟩
            have h4 : ¬ SubI c z (imageL c u) := by simpa using h3
            have hzp : ¬ (imageL c z).getD i.toNat 0 < 0 := fun hzn => h4 (key z h1.1 hzn h2)
            have h5 := h1.2
            rw [sub_cons hc hy.1 (imageL_length c z), if_neg hzp] at h5
            exact ⟨⟨⟨h1.1, h5⟩, h2⟩, h3⟩
          · rintro ⟨⟨h1, h2⟩, h3⟩
            exact ⟨⟨down z h1, h2⟩, h3⟩
        omega
      · have := nz_of hc hu.1 hi
        exact caseA u hu (by omega)
end Go.Proofs.YtojcdgdbffmlpaaGreat

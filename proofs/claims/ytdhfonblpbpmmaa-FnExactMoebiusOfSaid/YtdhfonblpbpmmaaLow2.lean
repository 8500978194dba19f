/- All that lies below an element in the Bruhat order: the reference's side. -/
import Derived.Test.YtdhfonblpbpmmaaLow
import Derived.Test.YtdhfonblpbpmmaaPref3
import Derived.Test.YtdhfonblpbpmmaaCnt
set_option linter.unusedVariables false
set_option linter.unusedSimpArgs false
namespace Go.Proofs.Ytdhfonblpbpmmaa
open Go Go.Aw Go.Cox

theorem srt_len_nd {L : List (List Int)} (hn : L.Nodup) : (srt L).length = L.length := by
  obtain ⟨h1, h2⟩ := srt_spec L
  have hs : (srt L).Nodup := List.Pairwise.imp (fun {a b} h e => by rw [e, cmpW_self] at h; omega) h1
  exact Nat.le_antisymm (nodup_le hs fun w hw => (h2 w).1 hw) (nodup_le hn fun w hw => (h2 w).2 hw)
def DoneV (c : List (List Int)) (L : List (List Int)) (k : Nat) : Prop := ∀ j, j < k → j < L.length → ∀ z ∈ bcT c (L.getD j []) (L.getD j []).length, z ∈ L

set_option maxHeartbeats 1000000 in
theorem c_spec_LowerIntervalR (c : List (List Int)) (w : List Int) (hcl : c.length ≤ 1048576) :
    FunA B 24 [.sl false (.row false) c, .sl false .int w] (fun rs o => ∃ ys g nn rest, (rw2 ys = lowX c w ∧ nn = true ∧ rest = [.bool (lowB c w)]) ∧ (lb1 ys).Nodup ∧ rest.all flatAV = true ∧ rs = .own 0 g :: rest ∧ o = [.arr .lrow ys g nn]) := by
  refine FunA.walk B_ok (fn := Try.f24) (fun vs w => Try.call24 vs w) Try.func24 rfl (by rw [Try.ntmps24]; simp) (fun C hC hP hT hΓ hbt hfn hpin hfin => ?_); have hX := BX; rw [← hΓ, ← hbt.1, ← hbt.2] at hX; rw [Try.ntmps24]; simp only [AW7, simprocAttr, hX]
  refine Run.nq ?_; refine Run.regionW hC (fun K hK => ?_); simp only [AW7, simprocAttr, hX]; (repeat (with_reducible refine And.intro ?_ ?_); exact vc0); refine hK _ ?_; clear hK K; refine Run.nq ?_
  refine Run.nq ?_; refine Run.regionW hC (fun K hK => ?_); simp only [AW7, simprocAttr, hX]; (repeat (with_reducible refine And.intro ?_ ?_); exact vc0)
  refine FunA.callW hP hT (c_spec_NormalForm c w hcl) (by simp only [AW7, simprocAttr]) ?_
  rintro rs o ⟨rfl, rfl⟩
  (try simp only [AW7, simprocAttr, hX]); (repeat (with_reducible refine And.intro ?_ ?_); exact vc0)
  (repeat (with_reducible refine And.intro ?_ ?_); exact vc0); refine hK _ ?_; clear hK K; refine Run.nq ?_
  refine Run.nq ?_; refine Run.regionW hC (fun K hK => ?_); simp only [AW7, simprocAttr, hX]; (repeat (with_reducible refine And.intro ?_ ?_); exact vc0); refine hK _ ?_; clear hK K; refine Run.nq ?_
  refine Run.nq ?_; refine Run.condW (by simp only [AW7, simprocAttr, hX]; rfl) (by simp only [AW7, simprocAttr, hX]) ?_ ?_
  · intro h
    have h : wordB c w = false := by simpa using h
    refine Run.nq ?_; refine Run.regionW hC (fun K hK => ?_); simp only [AW7, simprocAttr, hX]; (repeat (with_reducible refine And.intro ?_ ?_); exact vc0); refine hK _ ?_; clear hK K; refine Run.nq ?_
    refine Run.reK hpin [4, 5] [1] (by decide) (by simp) ?_; simp only [AR, AW7, simprocAttr]
    refine Run.retW [4, 5] (by decide) (by rw [hfn]; rfl) (by simp only [AW7, simprocAttr, hX]; rfl) (by simp only [AW7, simprocAttr, hX]) (hfin _ _ rfl rfl ?_)
    exact ⟨[], 0, true, [.bool false], ⟨by unfold lowX; rw [h]; rfl, rfl, by unfold lowB; rw [h]; rfl⟩, by simp [lb1], rfl, rfl, rfl⟩
  intro h
  have hwb : wordB c w = true := by simpa using h
  obtain ⟨hc, hw2, hw3⟩ := wordB_iff.1 hwb
  have hn := hc.2.1
  obtain ⟨hx, hx15⟩ := word_nf hwb
  rw [nfW_on hwb]
  have hpX : lowX c w = fewL (Low c (redL c w)) := by unfold lowX; rw [hwb]; rfl
  have hpB : lowB c w = fewB (Low c (redL c w)) := by unfold lowB; rw [hwb]; rfl
  generalize hgx : redL c w = x at *
  refine Run.nq ?_; refine Run.regionW hC (fun K hK => ?_); simp only [AW7, simprocAttr, hX]; (repeat (with_reducible refine And.intro ?_ ?_); exact vc0)
  intro q hq
  (repeat (with_reducible refine And.intro ?_ ?_); exact vc0)
  (repeat (with_reducible refine And.intro ?_ ?_); exact vc0); refine hK _ ?_; clear hK K; refine Run.nq ?_
  refine Run.nq ?_; refine Run.regionW hC (fun K hK => ?_); simp only [AW7, simprocAttr, hX]; (repeat (with_reducible refine And.intro ?_ ?_); exact vc0); refine hK _ ?_; clear hK K; refine Run.nq ?_
  refine Run.reK hpin [0, 8, 9] [1] (by decide) (by simp) ?_; simp only [AR, AW7, simprocAttr]
  refine Run.loopI (X := List (Nat × List Int) × Nat) (fun s => ⟨75, [(0, true, .v (.sl false (.row false) (c))), (8, true, .v (.own 0 0)), (9, true, .v (.int .i64 (s.2)))], [.arr .lrow (s.1) 0 true]⟩) (fun s => (s.2 ≤ s.1.length ∧ s.1.length ≤ 200) ∧ (rw2 s.1).Nodup ∧ (∀ z ∈ rw2 s.1, Low c x z) ∧ x ∈ rw2 s.1 ∧ DoneV c (rw2 s.1) s.2) (fun s => 201 - s.2) (([(q, x)], 0)) (⟨⟨by simp, by simp⟩, by simp [rw2], fun z hz => by simp [rw2] at hz; rw [hz]; exact Low.self hx, by simp [rw2], fun j hj => absurd hj (Nat.not_lt_zero _)⟩) ?_ ?_
  · exact Le.sub (by first | rfl | simp) (by simp only [AW7, simprocAttr, hX]; try simp <;> try (first | rfl | exact ⟨rfl, rfl⟩ | exact ⟨rfl, rfl, rfl⟩))
  rintro ⟨ys, k⟩ ⟨⟨hk, hyl⟩, hN, hR, hxm, hD⟩ ihO
  try simp only []
  simp only [] at hk hyl hN hR hxm hD
  clear hq
  refine Run.nq ?_; refine Run.regionW hC (fun K hK => ?_); simp only [AW7, simprocAttr, hX]; (repeat (with_reducible refine And.intro ?_ ?_); exact vc0); refine hK _ ?_; clear hK K; refine Run.nq ?_
  refine Run.nq ?_; refine Run.condW (by simp only [AW7, simprocAttr, hX]; rfl) (by simp only [AW7, simprocAttr, hX]) ?_ ?_
  rotate_left
  · intro h3
    have hke : k = ys.length := by rw [decide_eq_false_iff_not] at h3; omega
    subst hke
    have hcomp : ∀ z, z ∈ rw2 ys ↔ Low c x z := fun z => by
      refine ⟨hR z, fun hz => ?_⟩
      exact Low.all hc (fun y hy => (hR y hy).1) (fun y hy t ht => by
        obtain ⟨j, hj, rfl⟩ := List.getElem_of_mem hy
        have hj' : j < ys.length := by rw [rwl] at hj; exact hj
        have := hD j hj' hj t (by rw [getD_eq hj]; exact ht)
        exact this) x.length x z rfl hxm hz
    obtain ⟨e1, e2⟩ := few_on hN hcomp (by rw [rwl]; exact hyl)
    refine Run.exit rfl ?_; refine Run.nq ?_
    refine Run.nq ?_; refine Run.regionW hC (fun K hK => ?_); simp only [AW7, simprocAttr, hX]; (repeat (with_reducible refine And.intro ?_ ?_); exact vc0); refine hK _ ?_; clear hK K; refine Run.nq ?_
    refine Run.nq ?_; refine Run.regionW hC (fun K hK => ?_); simp only [AW7, simprocAttr, hX]; (repeat (with_reducible refine And.intro ?_ ?_); exact vc0); refine hK _ ?_; clear hK K; refine Run.nq ?_
    refine Run.reK hpin [0, 8, 12, 13] [0, 1] (by decide) (by simp) ?_; simp only [AR, AW7, simprocAttr]
    refine Run.loopI (X := List (Nat × List Int) × Nat) (fun s => ⟨75, [(0, true, .v (.sl false (.row false) (c))), (8, true, .v (.own 0 0)), (12, true, .v (.own 1 0)), (13, true, .v (.int .i64 (s.2)))], [.arr .lrow (ys) 0 true, .arr .lrow (s.1) 0 true]⟩) (fun s => s.2 ≤ ys.length ∧ (lb1 s.1).Nodup ∧ rw2 s.1 = srt ((rw2 ys).take s.2)) (fun s => ys.length - s.2) (([], 0)) (⟨Nat.zero_le _, by simp [lb1], rfl⟩) ?_ ?_
    · exact Le.sub (by first | rfl | simp) (by simp only [AW7, simprocAttr, hX]; try simp <;> try (first | rfl | exact ⟨rfl, rfl⟩ | exact ⟨rfl, rfl, rfl⟩))
    rintro ⟨zs, i⟩ ⟨hi, hz1, hz2⟩ ih
    try simp only []
    simp only [] at hi hz1 hz2
    refine Run.nq ?_; refine Run.regionW hC (fun K hK => ?_); simp only [AW7, simprocAttr, hX]; (repeat (with_reducible refine And.intro ?_ ?_); exact vc0); refine hK _ ?_; clear hK K; refine Run.nq ?_
    refine Run.nq ?_; refine Run.condW (by simp only [AW7, simprocAttr, hX]; rfl) (by simp only [AW7, simprocAttr, hX]) ?_ ?_
    rotate_left
    · intro h4
      have hie : i = ys.length := by rw [decide_eq_false_iff_not] at h4; omega
      refine Run.exit rfl ?_; refine Run.nq ?_
      refine Run.nq ?_; refine Run.regionW hC (fun K hK => ?_); simp only [AW7, simprocAttr, hX]; (repeat (with_reducible refine And.intro ?_ ?_); exact vc0); refine hK _ ?_; clear hK K; refine Run.nq ?_
      refine Run.reK hpin [4, 5] [1] (by decide) (by simp) ?_; simp only [AR, AW7, simprocAttr]
      refine Run.retW [4, 5] (by decide) (by rw [hfn]; rfl) (by simp only [AW7, simprocAttr, hX]; rfl) (by simp only [AW7, simprocAttr, hX]) (hfin _ _ rfl rfl ?_)
      refine ⟨zs, 0, true, [.bool true], ⟨?_, rfl, by rw [hpB, e1]⟩, hz1, rfl, rfl, rfl⟩
      rw [hpX, e2, hz2, hie, show (rw2 ys).take ys.length = rw2 ys from List.take_of_length_le (by rw [rwl]; exact Nat.le_refl _)]
    intro h4
    have h4 : i < ys.length := by rw [decide_eq_true_eq] at h4; omega
    have hzl : zs.length ≤ 200 := by
      have := congrArg List.length hz2
      have h5 := srt_len ((rw2 ys).take i)
      rw [rwl] at this
      rw [List.length_take, rwl] at h5
      omega
    have hzi := hR _ (mem_rw2 h4)
    have hsn := take_snoc [] (rw2 ys) i (by rw [rwl]; exact h4)
    rw [← rwg] at hsn
    generalize hgz : (ys.getD i (0, [])).2 = z at *
    have hzle := hzi.1.2.2
    refine Run.nq ?_; refine Run.regionW hC (fun K hK => ?_); simp only [AW7, simprocAttr, hX]; (repeat (with_reducible refine And.intro ?_ ?_); exact vc0)
    simp only [hgz]
    refine FunM.call hP hT (c_spec_l11Put zs z hz1 (by omega) (by omega) true) 1 0 (by simp only [AW7, simprocAttr]; rfl) (by simp) rfl (by simp only [AW7, simprocAttr]; try simp) ?_
    rintro rs o' obs' ⟨rfl, ys', hE3, hN3, h7⟩
    obtain ⟨rfl, rfl⟩ := List.cons.inj h7
    (try simp only [AW7, simprocAttr, hX]); (repeat (with_reducible refine And.intro ?_ ?_); exact vc0)
    (repeat (with_reducible refine And.intro ?_ ?_); exact vc0); refine hK _ ?_; clear hK K; refine Run.nq ?_
    refine Run.reK hpin [0, 8, 12, 13] [0, 2] (by decide) (by simp) ?_; simp only [AR, AW7, simprocAttr]
    refine Run.nq ?_; refine Run.regionW hC (fun K hK => ?_); simp (disch := omega) only [wrap_id, AW7, simprocAttr, hX]; (repeat (with_reducible refine And.intro ?_ ?_); exact vc0); refine hK _ ?_; clear hK K; refine Run.nq ?_
    refine Run.le ?_ (ih ((ys', i + 1)) (⟨h4, hN3, by rw [hE3, hz2, ← srt_snoc, hsn]⟩) (by (try simp only [List.length_append, List.length_cons, List.length_nil]); omega))
    exact Le.sub (by rfl) (by simp only [AW7, simprocAttr]; try simp)
  intro h3
  have h3 : k < ys.length := by rw [decide_eq_true_eq] at h3; omega
  have hyp := hR _ (mem_rw2 h3)
  have hgy := rwg ys k
  generalize hgy2 : (ys.getD k (0, [])).2 = y at *
  have hny := hyp.1
  have hy15 : y.length ≤ 15 := by have := hyp.len hc hx.1; omega
  have hWy : wordB c y = true := wordB_iff.2 ⟨hc, hy15, hny.1⟩
  refine Run.nq ?_; refine Run.regionW hC (fun K hK => ?_); simp only [AW7, simprocAttr, hX]; (repeat (with_reducible refine And.intro ?_ ?_); exact vc0)
  simp only [hgy2]
  refine FunA.callW hP hT (c_spec_BruhatCoversR c y hcl) (by simp only [AW7, simprocAttr]) ?_
  rintro rs o ⟨cs, g, nn, rest, ⟨hcs, rfl, rfl⟩, hcn, _, rfl, rfl⟩
  (try simp only [AW7, simprocAttr, hX]); (repeat (with_reducible refine And.intro ?_ ?_); exact vc0)
  (repeat (with_reducible refine And.intro ?_ ?_); exact vc0); refine hK _ ?_; clear hK K; refine Run.nq ?_
  refine Run.nq ?_; refine Run.regionW hC (fun K hK => ?_); simp only [AW7, simprocAttr, hX]; (repeat (with_reducible refine And.intro ?_ ?_); exact vc0); refine hK _ ?_; clear hK K; refine Run.nq ?_
  refine Run.reK hpin [0, 8, 9, 10, 11] [0, 1] (by decide) (by simp) ?_; simp only [AR, AW7, simprocAttr]
  have hbl := bcv_len c y
  have hcsr : ∀ z, z ∈ rw2 cs ↔ z ∈ bcT c y y.length := fun z => by
    rw [hcs]
    unfold bcv
    rw [hWy, if_pos rfl, hny.2.1, (srt_spec _).2]
  rw [← hcs, rwl] at hbl
  refine Run.loopI (X := List (Nat × List Int) × Nat) (fun s => ⟨75, [(0, true, .v (.sl false (.row false) (c))), (8, true, .v (.own 0 0)), (9, true, .v (.int .i64 (k))), (10, true, .v (.own 1 0)), (11, true, .v (.int .i64 (s.2)))], [.arr .lrow (s.1) 0 true, .arr .lrow (cs) 0 true]⟩) (fun s => (k < s.1.length ∧ s.1.length ≤ 200 ∧ s.2 ≤ cs.length) ∧ (rw2 s.1).Nodup ∧ (∀ z ∈ rw2 s.1, Low c x z) ∧ x ∈ rw2 s.1 ∧ DoneV c (rw2 s.1) k ∧ (rw2 s.1).getD k [] = y ∧ ∀ m, m < s.2 → (rw2 cs).getD m [] ∈ rw2 s.1) (fun s => cs.length - s.2) ((ys, 0)) (⟨⟨h3, hyl, Nat.zero_le _⟩, hN, hR, hxm, hD, hgy.symm, fun m hm => absurd hm (Nat.not_lt_zero _)⟩) ?_ ?_
  · exact Le.sub (by first | rfl | simp) (by simp only [AW7, simprocAttr, hX]; try simp <;> try (first | rfl | exact ⟨rfl, rfl⟩ | exact ⟨rfl, rfl, rfl⟩))
  rintro ⟨ys2, i⟩ ⟨⟨hk2, hyl2, hi⟩, hN2, hR2, hxm2, hD2, hyk, hM⟩ ih
  try simp only []
  simp only [] at hk2 hyl2 hi hN2 hR2 hxm2 hD2 hyk hM
  clear hN hR hxm hD
  refine Run.nq ?_; refine Run.regionW hC (fun K hK => ?_); simp only [AW7, simprocAttr, hX]; (repeat (with_reducible refine And.intro ?_ ?_); exact vc0); refine hK _ ?_; clear hK K; refine Run.nq ?_
  refine Run.nq ?_; refine Run.condW (by simp only [AW7, simprocAttr, hX]; rfl) (by simp only [AW7, simprocAttr, hX]) ?_ ?_
  rotate_left
  · intro h4
    have hie : i = cs.length := by rw [decide_eq_false_iff_not] at h4; omega
    have hD3 : DoneV c (rw2 ys2) (k + 1) := by
      intro j hj hjl z hz
      by_cases e : j = k
      · rw [e, hyk] at hz
        obtain ⟨m, hm, e2⟩ := mem_rw2_iff.1 ((hcsr z).2 hz)
        rw [rwg] at e2
        rw [← e2]
        exact hM m (by omega)
      · exact hD2 j (by omega) hjl z hz
    refine Run.exit rfl ?_; refine Run.nq ?_
    refine Run.reK hpin [0, 8, 9] [0] (by decide) (by simp) ?_; simp only [AR, AW7, simprocAttr]
    refine Run.nq ?_; refine Run.regionW hC (fun K hK => ?_); simp (disch := omega) only [wrap_id, AW7, simprocAttr, hX]; (repeat (with_reducible refine And.intro ?_ ?_); exact vc0); refine hK _ ?_; clear hK K; refine Run.nq ?_
    refine Run.le ?_ (ihO ((ys2, k + 1)) (⟨⟨hk2, hyl2⟩, hN2, hR2, hxm2, hD3⟩) (by (try simp only [List.length_append, List.length_cons, List.length_nil]); omega))
    exact Le.sub (by rfl) (by simp only [AW7, simprocAttr]; try simp)
  intro h4
  have h4 : i < cs.length := by rw [decide_eq_true_eq] at h4; omega
  have hzm := (hcsr _).1 (mem_rw2 h4)
  obtain ⟨hlz, _⟩ := bcT_low hc hny hzm
  have hLz := hyp.trans hc hlz hx.1
  have hzg := rwg cs i
  generalize hgz : (cs.getD i (0, [])).2 = z at *
  have hrl : ∀ r ∈ ys2.map (·.2), r.length ≤ 1048576 := fun r hr => by
    have := (hR2 r hr).1.2.2; omega
  have hM3 : ∀ (L : List (List Int)), (∀ t ∈ rw2 ys2, t ∈ L) → z ∈ L → ∀ m, m < i + 1 → (rw2 cs).getD m [] ∈ L := fun L q1 q2 m hm => by
    by_cases e : m = i
    · rw [e, ← hzg]; exact q2
    · exact q1 _ (hM m (by omega))
  refine Run.nq ?_; refine Run.regionW hC (fun K hK => ?_); simp only [AW7, simprocAttr, hX]; (repeat (with_reducible refine And.intro ?_ ?_); exact vc0)
  simp only [hgz]
  refine FunA.callW hP hT (c_spec_l7In (ys2.map (·.2)) z (by simp; omega) hrl) (by simp only [AW7, simprocAttr]) ?_
  rintro rs o ⟨rfl, rfl⟩
  (try simp only [AW7, simprocAttr, hX]); (repeat (with_reducible refine And.intro ?_ ?_); exact vc0)
  (repeat (with_reducible refine And.intro ?_ ?_); exact vc0); refine hK _ ?_; clear hK K; refine Run.nq ?_
  have hmap : ys2.map (·.2) = rw2 ys2 := rfl
  rw [hmap]
  refine Run.nq ?_; refine Run.condW (by simp only [AW7, simprocAttr, hX]; rfl) (by simp only [AW7, simprocAttr, hX]) ?_ ?_
  · intro h5
    have h5 : z ∉ rw2 ys2 := by simpa using h5
    refine Run.nq ?_; refine Run.regionW hC (fun K hK => ?_); simp only [AW7, simprocAttr, hX]; (repeat (with_reducible refine And.intro ?_ ?_); exact vc0); refine hK _ ?_; clear hK K; refine Run.nq ?_
    refine Run.nq ?_; refine Run.condW (by simp only [AW7, simprocAttr, hX]; rfl) (by simp only [AW7, simprocAttr, hX]) ?_ ?_
    · intro h6
      have h6 : 200 ≤ ys2.length := by rw [decide_eq_true_eq] at h6; omega
      obtain ⟨e1, e2⟩ := few_off (L := z :: rw2 ys2) (List.nodup_cons.2 ⟨h5, hN2⟩) (fun t ht => by
        rcases List.mem_cons.1 ht with rfl | ht
        · exact hLz
        · exact hR2 t ht) (by simp [rw2]; omega)
      refine Run.nq ?_; refine Run.regionW hC (fun K hK => ?_); simp only [AW7, simprocAttr, hX]; (repeat (with_reducible refine And.intro ?_ ?_); exact vc0); refine hK _ ?_; clear hK K; refine Run.nq ?_
      refine Run.reK hpin [4, 5] [2] (by decide) (by simp) ?_; simp only [AR, AW7, simprocAttr]
      refine Run.retW [4, 5] (by decide) (by rw [hfn]; rfl) (by simp only [AW7, simprocAttr, hX]; rfl) (by simp only [AW7, simprocAttr, hX]) (hfin _ _ rfl rfl ?_)
      exact ⟨[], 0, true, [.bool false], ⟨by rw [hpX, e2]; rfl, rfl, by rw [hpB, e1]⟩, by simp [lb1], rfl, rfl, rfl⟩
    intro h6
    have h6 : ys2.length < 200 := by rw [decide_eq_false_iff_not] at h6; omega
    refine Run.nq ?_; refine Run.regionW hC (fun K hK => ?_); simp only [AW7, simprocAttr, hX]; (repeat (with_reducible refine And.intro ?_ ?_); exact vc0); refine hK _ ?_; clear hK K; refine Run.nq ?_
    simp only [hgz]
    generalize hgq : (cs.getD i (0, [])).1 = q2
    have hmem : ∀ t, t ∈ rw2 (ys2 ++ [(q2, z)]) ↔ t ∈ rw2 ys2 ∨ t = z := fun t => by rw [rw2_app]; simp [rw2]
    have hget : ∀ j, j < ys2.length → (rw2 (ys2 ++ [(q2, z)])).getD j [] = (rw2 ys2).getD j [] := fun j hj => by
      rw [rw2_app, List.getD_eq_getElem?_getD, List.getElem?_append_left (by rw [rwl]; exact hj), ← List.getD_eq_getElem?_getD]
    have hN3 : (rw2 (ys2 ++ [(q2, z)])).Nodup := by
      rw [rw2_app]
      refine List.nodup_append.2 ⟨hN2, by simp [rw2], fun a ha b hb e => ?_⟩
      simp [rw2] at hb
      rw [e, hb] at ha
      exact h5 ha
    have hR3 : ∀ t ∈ rw2 (ys2 ++ [(q2, z)]), Low c x t := fun t ht => by
      rcases (hmem t).1 ht with ht | rfl
      · exact hR2 t ht
      · exact hLz
    have hD3 : DoneV c (rw2 (ys2 ++ [(q2, z)])) k := fun j hj hjl t ht => by
      rw [hget j (by omega)] at ht
      exact (hmem _).2 (.inl (hD2 j hj (by rw [rwl]; omega) t ht))
    have hyk4 : (rw2 (ys2 ++ [(q2, z)])).getD k [] = y := by rw [hget k hk2]; exact hyk
    refine Run.reK hpin [0, 8, 9, 10, 11] [0, 1] (by decide) (by simp) ?_; simp only [AR, AW7, simprocAttr]
    refine Run.nq ?_; refine Run.regionW hC (fun K hK => ?_); simp (disch := omega) only [wrap_id, AW7, simprocAttr, hX]; (repeat (with_reducible refine And.intro ?_ ?_); exact vc0); refine hK _ ?_; clear hK K; refine Run.nq ?_
    refine Run.le ?_ (ih ((ys2 ++ [(q2, z)], i + 1)) (⟨⟨by simp; omega, by simp; omega, h4⟩, hN3, hR3, (hmem _).2 (.inl hxm2), hD3, hyk4, hM3 _ (fun t ht => (hmem t).2 (.inl ht)) ((hmem z).2 (.inr rfl))⟩) (by (try simp only [List.length_append, List.length_cons, List.length_nil]); omega))
    exact Le.sub (by rfl) (by simp only [AW7, simprocAttr]; try simp)
  intro h5
  have h5 : z ∈ rw2 ys2 := by simpa using h5
  refine Run.reK hpin [0, 8, 9, 10, 11] [0, 1] (by decide) (by simp) ?_; simp only [AR, AW7, simprocAttr]
  refine Run.nq ?_; refine Run.regionW hC (fun K hK => ?_); simp (disch := omega) only [wrap_id, AW7, simprocAttr, hX]; (repeat (with_reducible refine And.intro ?_ ?_); exact vc0); refine hK _ ?_; clear hK K; refine Run.nq ?_
  refine Run.le ?_ (ih ((ys2, i + 1)) (⟨⟨hk2, hyl2, h4⟩, hN2, hR2, hxm2, hD2, hyk, hM3 _ (fun t ht => ht) h5⟩) (by (try simp only [List.length_append, List.length_cons, List.length_nil]); omega))
  exact Le.sub (by rfl) (by simp only [AW7, simprocAttr]; try simp)

theorem c_impl_LowerInterval (c : List (List Int)) (w : List Int) (hcl : c.length ≤ 1048576) :
    FunA B 25 [.sl false (.row false) c, .sl false .int w] (fun rs o => rs = [.own 0 0, .bool (lowB c w)] ∧ ∃ hs, hs.length = (lowX c w).length ∧ o = [.mat hs (lowX c w) 0 true]) :=
  (FunA.mat (by rfl) (post := fun rows nn rest => rows = lowX c w ∧ nn = true ∧ rest = [.bool (lowB c w)]) (c_impl_LowerIntervalR c w hcl)).mono fun rs o ⟨hs, rows, nn, rest, ⟨h1, h2, h3⟩, h4, h5, h6⟩ => by subst h1 h2 h3; exact ⟨h5, hs, h4, h6⟩
theorem c_spec_LowerInterval (c : List (List Int)) (w : List Int) (hcl : c.length ≤ 1048576) :
    FunA B 24 [.sl false (.row false) c, .sl false .int w] (fun rs o => rs = [.own 0 0, .bool (lowB c w)] ∧ ∃ hs, hs.length = (lowX c w).length ∧ o = [.mat hs (lowX c w) 0 true]) :=
  (FunA.mat (by rfl) (post := fun rows nn rest => rows = lowX c w ∧ nn = true ∧ rest = [.bool (lowB c w)]) (c_spec_LowerIntervalR c w hcl)).mono fun rs o ⟨hs, rows, nn, rest, ⟨h1, h2, h3⟩, h4, h5, h6⟩ => by subst h1 h2 h3; exact ⟨h5, hs, h4, h6⟩
end Go.Proofs.Ytdhfonblpbpmmaa

/- The number of reduced words: the reference's side. -/
import Derived.Test.YtnhiamdnghgboaaCnt3
import Derived.Test.YtnhiamdnghgboaaCnt4
set_option linter.unusedVariables false
set_option linter.unusedSimpArgs false
namespace Go.Proofs.Ytnhiamdnghgboaa
open Go Go.Aw Go.Cox

/-- The reduced words of an element. -/
def RW (c : List (List Int)) (x w : List Int) : Prop := letters c.length w ∧ imageL c w = imageL c x ∧ w.length = x.length
theorem rw_all {c : List (List Int)} (hc : CartanP c) {x : List Int} (hx : Nf c x) (w : List Int) : w ∈ allW c x.length (imageL c x) ↔ RW c x w := allW_mem hc x.length x.length (hx.far hc) (Nat.le_refl _) w
theorem RW.step {c : List (List Int)} (hc : CartanP c) {x w : List Int} (h : RW c x w) {k : Nat} (hk : bmP c w k) : RW c x (bmX c w k) := by
  obtain ⟨h1, h2, h3⟩ := h
  obtain ⟨k1, k2⟩ := bmX_ok hc h1 hk
  exact ⟨k1, k2.trans h2, (bmX_len hk).trans h3⟩
def DoneB (c : List (List Int)) (L : List (List Int)) (k : Nat) : Prop := ∀ j, j < k → j < L.length → ∀ a, bmP c (L.getD j []) a → bmX c (L.getD j []) a ∈ L
theorem rw_count {c : List (List Int)} (hc : CartanP c) {x : List Int} (hx : Nf c x) {L : List (List Int)} (hn : L.Nodup) (hL : ∀ w ∈ L, RW c x w) (h0 : x ∈ L) (hD : DoneB c L L.length) : L.length = nW c x.length (imageL c x) := by
  have hin : ∀ w, w ∈ L ↔ w ∈ allW c x.length (imageL c x) := by
    intro w
    rw [rw_all hc hx]
    refine ⟨hL w, fun ⟨h1, h2, h3⟩ => ?_⟩
    exact red_closed hc (S := fun w => w ∈ L) (fun y hy _ a ha => by
      obtain ⟨j, hj, rfl⟩ := List.getElem_of_mem hy
      have := hD j hj hj a (by rw [getD_eq hj]; exact ha)
      rwa [getD_eq hj] at this) (hx.red hc) h1 h2 h3 h0
  rw [← allW_len]
  exact Nat.le_antisymm (nodup_le hn fun w hw => (hin w).1 hw) (nodup_le (allW_nodup _ _) fun w hw => (hin w).2 hw)
theorem srt_len_eq {L : List (List Int)} (hn : L.Nodup) : (srt L).length = L.length := by
  obtain ⟨h1, h2⟩ := srt_spec L
  have hs : (srt L).Nodup := List.Pairwise.imp (fun {a b} h e => by rw [e, cmpW_self] at h; omega) h1
  exact Nat.le_antisymm (nodup_le hs fun w hw => (h2 w).1 hw) (nodup_le hn fun w hw => (h2 w).2 hw)

set_option maxHeartbeats 1000000 in
theorem c_spec_ReducedWords (c : List (List Int)) (w : List Int) (hcl : c.length ≤ 1048576) :
    FunA B 43 [.sl false (.row false) c, .sl false .int w] (fun rs o => ∃ ys g nn, (cnB c w = true → ys.length = cnN c w) ∧ rs = [.own 0 g, .bool (cnB c w)] ∧ o = [.arr .lrow ys g nn]) := by
  refine FunA.walk B_ok (fn := Try.f43) (fun vs w => Try.call43 vs w) Try.func43 rfl (by rw [Try.ntmps43]; simp) (fun C hC hP hT hΓ hbt hfn hpin hfin => ?_); have hX := BX; rw [← hΓ, ← hbt.1, ← hbt.2] at hX; rw [Try.ntmps43]; simp only [AW6, simprocAttr, hX]
  refine Run.nq ?_; refine Run.regionW hC (fun K hK => ?_); simp only [AW6, simprocAttr, hX]; (repeat (with_reducible refine And.intro ?_ ?_); exact vc0); refine hK _ ?_; clear hK K; refine Run.nq ?_
  refine Run.nq ?_; refine Run.regionW hC (fun K hK => ?_); simp only [AW6, simprocAttr, hX]; (repeat (with_reducible refine And.intro ?_ ?_); exact vc0)
  refine FunA.callW hP hT (c_spec_NormalForm c w hcl) (by simp only [AW6, simprocAttr]) ?_
  rintro rs o ⟨rfl, rfl⟩
  (try simp only [AW6, simprocAttr, hX]); (repeat (with_reducible refine And.intro ?_ ?_); exact vc0)
  (repeat (with_reducible refine And.intro ?_ ?_); exact vc0); refine hK _ ?_; clear hK K; refine Run.nq ?_
  refine Run.nq ?_; refine Run.regionW hC (fun K hK => ?_); simp only [AW6, simprocAttr, hX]; (repeat (with_reducible refine And.intro ?_ ?_); exact vc0); refine hK _ ?_; clear hK K; refine Run.nq ?_
  refine Run.nq ?_; refine Run.condW (by simp only [AW6, simprocAttr, hX]; rfl) (by simp only [AW6, simprocAttr, hX]) ?_ ?_
  · intro h
    have h : wordB c w = false := by
      cases hw : wordB c w with
      | false => rfl
      | true =>
        rw [hw, nfW_on hw] at h
        have := (word_nf hw).2
        rw [decide_eq_false (by omega : ¬ ((redL c w).length : Int) > 15)] at h
        simp at h
    have e1 : cnB c w = false := by simp [cnB, h]
    refine Run.nq ?_; refine Run.regionW hC (fun K hK => ?_); simp only [AW6, simprocAttr, hX]; (repeat (with_reducible refine And.intro ?_ ?_); exact vc0); refine hK _ ?_; clear hK K; refine Run.nq ?_
    refine Run.reK hpin [4, 5] [1] (by decide) (by simp) ?_; simp only [AR, AW6, simprocAttr]
    refine Run.retW [4, 5] (by decide) (by rw [hfn]; rfl) (by simp only [AW6, simprocAttr, hX]; rfl) (by simp only [AW6, simprocAttr, hX]) (hfin _ _ rfl rfl ?_)
    exact ⟨[], 0, true, (fun h => by rw [e1] at h; cases h), by rw [e1], rfl⟩
  intro h
  have hwb : wordB c w = true := by
    cases hw : wordB c w with
    | true => rfl
    | false => rw [hw] at h; simp at h
  obtain ⟨hc, hw2, hw3⟩ := wordB_iff.1 hwb
  have hn := hc.2.1
  obtain ⟨hx, hx15⟩ := word_nf hwb
  rw [nfW_on hwb]
  have him : imageL c (redL c w) = imageL c w := (red_spec hc hw3 (by omega)).2.2.2.1
  have hcN : cnN c w = nW c (redL c w).length (imageL c (redL c w)) := by rw [him]; rfl
  have hcB : cnB c w = decide (cnN c w ≤ 120) := by simp [cnB, hwb]
  generalize hgx : redL c w = x at *
  refine Run.nq ?_; refine Run.regionW hC (fun K hK => ?_); simp only [AW6, simprocAttr, hX]; (repeat (with_reducible refine And.intro ?_ ?_); exact vc0)
  intro q hq
  (repeat (with_reducible refine And.intro ?_ ?_); exact vc0)
  (repeat (with_reducible refine And.intro ?_ ?_); exact vc0); refine hK _ ?_; clear hK K; refine Run.nq ?_
  refine Run.nq ?_; refine Run.regionW hC (fun K hK => ?_); simp only [AW6, simprocAttr, hX]; (repeat (with_reducible refine And.intro ?_ ?_); exact vc0); refine hK _ ?_; clear hK K; refine Run.nq ?_
  refine Run.reK hpin [0, 8, 9] [1] (by decide) (by simp) ?_; simp only [AR, AW6, simprocAttr]
  refine Run.loopI (X := List (Nat × List Int) × Nat) (fun s => ⟨89, [(0, true, .v (.sl false (.row false) (c))), (8, true, .v (.own 0 0)), (9, true, .v (.int .i64 (s.2)))], [.arr .lrow (s.1) 0 true]⟩) (fun s => (s.2 ≤ s.1.length ∧ s.1.length ≤ 120) ∧ (rw2 s.1).Nodup ∧ (∀ z ∈ rw2 s.1, RW c x z) ∧ x ∈ rw2 s.1 ∧ DoneB c (rw2 s.1) s.2) (fun s => 121 - s.2) (([(q, x)], 0)) (⟨⟨by simp, by simp⟩, by simp [rw2], fun z hz => by simp [rw2] at hz; rw [hz]; exact ⟨hx.1, rfl, rfl⟩, by simp [rw2], fun j hj => by omega⟩) ?_ ?_
  · exact Le.sub (by first | rfl | simp) (by simp only [AW6, simprocAttr, hX]; try simp <;> try (first | rfl | exact ⟨rfl, rfl⟩ | exact ⟨rfl, rfl, rfl⟩))
  rintro ⟨ys, k⟩ ⟨⟨hk, hyl⟩, hN, hR, hxm, hD⟩ ihO
  try simp only []
  simp only [] at hk hyl hN hR hxm hD
  clear hq
  refine Run.nq ?_; refine Run.regionW hC (fun K hK => ?_); simp only [AW6, simprocAttr, hX]; (repeat (with_reducible refine And.intro ?_ ?_); exact vc0); refine hK _ ?_; clear hK K; refine Run.nq ?_
  refine Run.nq ?_; refine Run.condW (by simp only [AW6, simprocAttr, hX]; rfl) (by simp only [AW6, simprocAttr, hX]) ?_ ?_
  rotate_left
  · intro h3
    have hke : k = ys.length := by rw [decide_eq_false_iff_not] at h3; omega
    subst hke
    have hcnt := rw_count hc hx hN hR hxm (by rw [rwl]; exact hD)
    rw [rwl, ← hcN] at hcnt
    have e1 : cnB c w = true := by rw [hcB]; simp; omega
    refine Run.exit rfl ?_; refine Run.nq ?_
    refine Run.nq ?_; refine Run.regionW hC (fun K hK => ?_); simp only [AW6, simprocAttr, hX]; (repeat (with_reducible refine And.intro ?_ ?_); exact vc0); refine hK _ ?_; clear hK K; refine Run.nq ?_
    refine Run.nq ?_; refine Run.regionW hC (fun K hK => ?_); simp only [AW6, simprocAttr, hX]; (repeat (with_reducible refine And.intro ?_ ?_); exact vc0); refine hK _ ?_; clear hK K; refine Run.nq ?_
    refine Run.reK hpin [0, 8, 14, 15] [0, 1] (by decide) (by simp) ?_; simp only [AR, AW6, simprocAttr]
    refine Run.loopI (X := List (Nat × List Int) × Nat) (fun s => ⟨89, [(0, true, .v (.sl false (.row false) (c))), (8, true, .v (.own 0 0)), (14, true, .v (.own 1 0)), (15, true, .v (.int .i64 (s.2)))], [.arr .lrow (ys) 0 true, .arr .lrow (s.1) 0 true]⟩) (fun s => s.2 ≤ ys.length ∧ (lb1 s.1).Nodup ∧ rw2 s.1 = srt ((rw2 ys).take s.2)) (fun s => ys.length - s.2) (([], 0)) (⟨Nat.zero_le _, by simp [lb1], rfl⟩) ?_ ?_
    · exact Le.sub (by first | rfl | simp) (by simp only [AW6, simprocAttr, hX]; try simp <;> try (first | rfl | exact ⟨rfl, rfl⟩ | exact ⟨rfl, rfl, rfl⟩))
    rintro ⟨zs, i⟩ ⟨hi, hz1, hz2⟩ ih
    try simp only []
    simp only [] at hi hz1 hz2
    refine Run.nq ?_; refine Run.regionW hC (fun K hK => ?_); simp only [AW6, simprocAttr, hX]; (repeat (with_reducible refine And.intro ?_ ?_); exact vc0); refine hK _ ?_; clear hK K; refine Run.nq ?_
    refine Run.nq ?_; refine Run.condW (by simp only [AW6, simprocAttr, hX]; rfl) (by simp only [AW6, simprocAttr, hX]) ?_ ?_
    rotate_left
    · intro h4
      have hie : i = ys.length := by rw [decide_eq_false_iff_not] at h4; omega
      refine Run.exit rfl ?_; refine Run.nq ?_
      refine Run.nq ?_; refine Run.regionW hC (fun K hK => ?_); simp only [AW6, simprocAttr, hX]; (repeat (with_reducible refine And.intro ?_ ?_); exact vc0); refine hK _ ?_; clear hK K; refine Run.nq ?_
      refine Run.reK hpin [4, 5] [1] (by decide) (by simp) ?_; simp only [AR, AW6, simprocAttr]
      refine Run.retW [4, 5] (by decide) (by rw [hfn]; rfl) (by simp only [AW6, simprocAttr, hX]; rfl) (by simp only [AW6, simprocAttr, hX]) (hfin _ _ rfl rfl ?_)
      refine ⟨zs, 0, true, fun _ => ?_, by rw [e1], rfl⟩
      have := congrArg List.length hz2
      rw [rwl, hie, show (rw2 ys).take ys.length = rw2 ys from List.take_of_length_le (by rw [rwl]; exact Nat.le_refl _), srt_len_eq hN, rwl] at this
      omega
    intro h4
    have h4 : i < ys.length := by rw [decide_eq_true_eq] at h4; omega
    have hzl : zs.length ≤ 120 := by
      have := congrArg List.length hz2
      have h5 := srt_len ((rw2 ys).take i)
      rw [rwl] at this
      simp at h5
      omega
    have hzi := hR _ (mem_rw2 h4)
    have hsn := take_snoc [] (rw2 ys) i (by rw [rwl]; exact h4)
    rw [← rwg] at hsn
    generalize hgz : (ys.getD i (0, [])).2 = z at *
    have hzle : z.length ≤ 15 := by have := hzi.2.2; omega
    refine Run.nq ?_; refine Run.regionW hC (fun K hK => ?_); simp only [AW6, simprocAttr, hX]; (repeat (with_reducible refine And.intro ?_ ?_); exact vc0)
    simp only [hgz]
    refine FunM.call hP hT (c_spec_l11Put zs z hz1 (by omega) (by omega) true) 1 0 (by simp only [AW6, simprocAttr]; rfl) (by simp) rfl (by simp only [AW6, simprocAttr]; try simp) ?_
    rintro rs o' obs' ⟨rfl, ys', hE3, hN3, h7⟩
    obtain ⟨rfl, rfl⟩ := List.cons.inj h7
    (try simp only [AW6, simprocAttr, hX]); (repeat (with_reducible refine And.intro ?_ ?_); exact vc0)
    (repeat (with_reducible refine And.intro ?_ ?_); exact vc0); refine hK _ ?_; clear hK K; refine Run.nq ?_
    refine Run.reK hpin [0, 8, 14, 15] [0, 2] (by decide) (by simp) ?_; simp only [AR, AW6, simprocAttr]
    refine Run.nq ?_; refine Run.regionW hC (fun K hK => ?_); simp (disch := omega) only [wrap_id, AW6, simprocAttr, hX]; (repeat (with_reducible refine And.intro ?_ ?_); exact vc0); refine hK _ ?_; clear hK K; refine Run.nq ?_
    refine Run.le ?_ (ih ((ys', i + 1)) (⟨h4, hN3, by rw [hE3, hz2, ← srt_snoc, hsn]⟩) (by (try simp only [List.length_append, List.length_cons, List.length_nil]); omega))
    exact Le.sub (by rfl) (by simp only [AW6, simprocAttr]; try simp)
  intro h3
  have h3 : k < ys.length := by rw [decide_eq_true_eq] at h3; omega
  have hyp := hR _ (mem_rw2 h3)
  have hgy := rwg ys k
  generalize hgy2 : (ys.getD k (0, [])).2 = y at *
  have hy15 : y.length ≤ 15 := by have := hyp.2.2; omega
  have hWy : WordP c y := ⟨hc, hy15, hyp.1⟩
  have hbl : (bpL c y).length ≤ 15 := by have := bpT_len c y y.length; unfold bpL; omega
  refine Run.nq ?_; refine Run.regionW hC (fun K hK => ?_); simp only [AW6, simprocAttr, hX]; (repeat (with_reducible refine And.intro ?_ ?_); exact vc0)
  simp only [hgy2]
  refine FunA.callW hP hT (c_spec_BraidPlaces c y hWy) (by simp only [AW6, simprocAttr]) ?_
  rintro rs o ⟨rfl, rfl⟩
  (try simp only [AW6, simprocAttr, hX]); (repeat (with_reducible refine And.intro ?_ ?_); exact vc0)
  (repeat (with_reducible refine And.intro ?_ ?_); exact vc0); refine hK _ ?_; clear hK K; refine Run.nq ?_
  refine Run.nq ?_; refine Run.regionW hC (fun K hK => ?_); simp only [AW6, simprocAttr, hX]; (repeat (with_reducible refine And.intro ?_ ?_); exact vc0); refine hK _ ?_; clear hK K; refine Run.nq ?_
  refine Run.reK hpin [0, 8, 9, 10, 11] [0, 1] (by decide) (by simp) ?_; simp only [AR, AW6, simprocAttr]
  refine Run.loopI (X := List (Nat × List Int) × Nat) (fun s => ⟨89, [(0, true, .v (.sl false (.row false) (c))), (8, true, .v (.own 0 0)), (9, true, .v (.int .i64 (k))), (10, true, .v (.own 1 0)), (11, true, .v (.int .i64 (s.2)))], [.arr .lrow (s.1) 0 true, .arr .int ((bpL c y)) 0 true]⟩) (fun s => (k < s.1.length ∧ s.1.length ≤ 120 ∧ s.2 ≤ (bpL c y).length) ∧ (rw2 s.1).Nodup ∧ (∀ z ∈ rw2 s.1, RW c x z) ∧ x ∈ rw2 s.1 ∧ DoneB c (rw2 s.1) k ∧ (rw2 s.1).getD k [] = y ∧ ∀ m, m < s.2 → bmX c y ((bpL c y).getD m 0).toNat ∈ rw2 s.1) (fun s => (bpL c y).length - s.2) ((ys, 0)) (⟨⟨h3, hyl, Nat.zero_le _⟩, hN, hR, hxm, hD, hgy.symm, fun m hm => by omega⟩) ?_ ?_
  · exact Le.sub (by first | rfl | simp) (by simp only [AW6, simprocAttr, hX]; try simp <;> try (first | rfl | exact ⟨rfl, rfl⟩ | exact ⟨rfl, rfl, rfl⟩))
  rintro ⟨ys2, i⟩ ⟨⟨hk2, hyl2, hi⟩, hN2, hR2, hxm2, hD2, hyk, hM⟩ ih
  try simp only []
  simp only [] at hk2 hyl2 hi hN2 hR2 hxm2 hD2 hyk hM
  clear hN hR hxm hD
  refine Run.nq ?_; refine Run.regionW hC (fun K hK => ?_); simp only [AW6, simprocAttr, hX]; (repeat (with_reducible refine And.intro ?_ ?_); exact vc0); refine hK _ ?_; clear hK K; refine Run.nq ?_
  refine Run.nq ?_; refine Run.condW (by simp only [AW6, simprocAttr, hX]; rfl) (by simp only [AW6, simprocAttr, hX]) ?_ ?_
  rotate_left
  · intro h4
    have hie : i = (bpL c y).length := by rw [decide_eq_false_iff_not] at h4; omega
    have hD3 : DoneB c (rw2 ys2) (k + 1) := by
      intro j hj hjl a ha
      by_cases e : j = k
      · rw [e, hyk] at ha ⊢
        have hin : (a : Int) ∈ bpL c y := bpL_mem.2 ⟨a, rfl, by have := ha.1; omega, ha⟩
        obtain ⟨m, hm, e2⟩ := List.getElem_of_mem hin
        have := hM m (by omega)
        rwa [getD_eq hm, e2, Int.toNat_natCast] at this
      · exact hD2 j (by omega) hjl a ha
    refine Run.exit rfl ?_; refine Run.nq ?_
    refine Run.reK hpin [0, 8, 9] [0] (by decide) (by simp) ?_; simp only [AR, AW6, simprocAttr]
    refine Run.nq ?_; refine Run.regionW hC (fun K hK => ?_); simp (disch := omega) only [wrap_id, AW6, simprocAttr, hX]; (repeat (with_reducible refine And.intro ?_ ?_); exact vc0); refine hK _ ?_; clear hK K; refine Run.nq ?_
    refine Run.le ?_ (ihO ((ys2, k + 1)) (⟨⟨hk2, hyl2⟩, hN2, hR2, hxm2, hD3⟩) (by (try simp only [List.length_append, List.length_cons, List.length_nil]); omega))
    exact Le.sub (by rfl) (by simp only [AW6, simprocAttr]; try simp)
  intro h4
  have h4 : i < (bpL c y).length := by rw [decide_eq_true_eq] at h4; omega
  obtain ⟨a, ha1, ha2, ha3⟩ := bpL_mem.1 (getD_mem h4)
  have hRz := hyp.step hc ha3
  have hby : byL c y a = bmX c y a := if_pos ha3
  have hyk3 : (ys2.getD k (0, [])).2 = y := by rw [rwg]; exact hyk
  refine Run.nq ?_; refine Run.regionD hC true [0,1,2,3,4,5,6,7,8,9,10,11,12,13,14] (by kernel_rfl) (fun K hK => ?_); simp only [AW6, simprocAttr, hX]; (repeat (with_reducible refine And.intro ?_ ?_); exact vc0)
  simp only [Int.toNat_natCast, hyk3, ha1]
  refine FunA.callD hP hT (c_spec_BraidAt c y a hWy ha2) (by simp only [AW6, simprocAttr]) ?_
  rintro rs o ⟨rfl, rfl⟩
  rw [hby]
  (try simp only [AW6, simprocAttr, hX]); (repeat (with_reducible refine And.intro ?_ ?_); exact vc0)
  (repeat (with_reducible refine And.intro ?_ ?_); exact vc0); refine hK _ ?_; clear hK K; refine Run.nq ?_
  have hrl : ∀ r ∈ ys2.map (·.2), r.length ≤ 1048576 := fun r hr => by
    have := (hR2 r hr).2.2; omega
  generalize hgz : bmX c y a = z at *
  have hz15 : z.length ≤ 15 := by have := hRz.2.2; omega
  have hM3 : ∀ (L : List (List Int)), (∀ t ∈ rw2 ys2, t ∈ L) → z ∈ L → ∀ m, m < i + 1 → bmX c y ((bpL c y).getD m 0).toNat ∈ L := fun L q1 q2 m hm => by
    by_cases e : m = i
    · rw [e, ha1, Int.toNat_natCast, hgz]; exact q2
    · exact q1 _ (hM m (by omega))
  refine Run.nq ?_; refine Run.regionW hC (fun K hK => ?_); simp only [AW6, simprocAttr, hX]; (repeat (with_reducible refine And.intro ?_ ?_); exact vc0)
  refine FunA.callW hP hT (c_spec_l7In (ys2.map (·.2)) z (by simp; omega) hrl) (by simp only [AW6, simprocAttr]) ?_
  rintro rs o ⟨rfl, rfl⟩
  (try simp only [AW6, simprocAttr, hX]); (repeat (with_reducible refine And.intro ?_ ?_); exact vc0)
  (repeat (with_reducible refine And.intro ?_ ?_); exact vc0); refine hK _ ?_; clear hK K; refine Run.nq ?_
  have hmap : ys2.map (·.2) = rw2 ys2 := rfl
  rw [hmap]
  refine Run.nq ?_; refine Run.condW (by simp only [AW6, simprocAttr, hX]; rfl) (by simp only [AW6, simprocAttr, hX]) ?_ ?_
  · intro h5
    have h5 : z ∉ rw2 ys2 := by simpa using h5
    refine Run.nq ?_; refine Run.regionW hC (fun K hK => ?_); simp only [AW6, simprocAttr, hX]; (repeat (with_reducible refine And.intro ?_ ?_); exact vc0); refine hK _ ?_; clear hK K; refine Run.nq ?_
    refine Run.nq ?_; refine Run.condW (by simp only [AW6, simprocAttr, hX]; rfl) (by simp only [AW6, simprocAttr, hX]) ?_ ?_
    · intro h6
      have h6 : 120 ≤ ys2.length := by rw [decide_eq_true_eq] at h6; omega
      have hbig : 121 ≤ cnN c w := by
        rw [hcN, ← allW_len]
        have := nodup_le (a := z :: rw2 ys2) (b := allW c x.length (imageL c x)) (List.nodup_cons.2 ⟨h5, hN2⟩) (fun t ht => by
          rw [rw_all hc hx]
          rcases List.mem_cons.1 ht with rfl | ht
          · exact hRz
          · exact hR2 t ht)
        simp [rw2] at this
        omega
      have e1 : cnB c w = false := by rw [hcB]; simp; omega
      refine Run.nq ?_; refine Run.regionW hC (fun K hK => ?_); simp only [AW6, simprocAttr, hX]; (repeat (with_reducible refine And.intro ?_ ?_); exact vc0); refine hK _ ?_; clear hK K; refine Run.nq ?_
      refine Run.reK hpin [4, 5] [3] (by decide) (by simp) ?_; simp only [AR, AW6, simprocAttr]
      refine Run.retW [4, 5] (by decide) (by rw [hfn]; rfl) (by simp only [AW6, simprocAttr, hX]; rfl) (by simp only [AW6, simprocAttr, hX]) (hfin _ _ rfl rfl ?_)
      exact ⟨[], 0, true, (fun h => by rw [e1] at h; cases h), by rw [e1], rfl⟩
    intro h6
    have h6 : ys2.length < 120 := by rw [decide_eq_false_iff_not] at h6; omega
    refine Run.nq ?_; refine Run.regionW hC (fun K hK => ?_); simp only [AW6, simprocAttr, hX]; (repeat (with_reducible refine And.intro ?_ ?_); exact vc0)
    intro q2 hq2
    (repeat (with_reducible refine And.intro ?_ ?_); exact vc0)
    (repeat (with_reducible refine And.intro ?_ ?_); exact vc0); refine hK _ ?_; clear hK K; refine Run.nq ?_
    have hmem : ∀ t, t ∈ rw2 (ys2 ++ [(q2, z)]) ↔ t ∈ rw2 ys2 ∨ t = z := fun t => by rw [rw2_app]; simp [rw2]
    have hget : ∀ j, j < ys2.length → (rw2 (ys2 ++ [(q2, z)])).getD j [] = (rw2 ys2).getD j [] := fun j hj => by
      rw [rw2_app, List.getD_eq_getElem?_getD, List.getElem?_append_left (by rw [rwl]; exact hj), ← List.getD_eq_getElem?_getD]
    have hN3 : (rw2 (ys2 ++ [(q2, z)])).Nodup := by
      rw [rw2_app]
      refine List.nodup_append.2 ⟨hN2, by simp [rw2], fun a ha b hb e => ?_⟩
      simp [rw2] at hb
      rw [e, hb] at ha
      exact h5 ha
    have hR3 : ∀ t ∈ rw2 (ys2 ++ [(q2, z)]), RW c x t := fun t ht => by
      rcases (hmem t).1 ht with ht | rfl
      · exact hR2 t ht
      · exact hRz
    have hD3 : DoneB c (rw2 (ys2 ++ [(q2, z)])) k := fun j hj hjl b hb => by
      rw [hget j (by omega)] at hb ⊢
      exact (hmem _).2 (.inl (hD2 j hj (by rw [rwl]; omega) b hb))
    have hyk4 : (rw2 (ys2 ++ [(q2, z)])).getD k [] = y := by rw [hget k hk2]; exact hyk
    refine Run.reK hpin [0, 8, 9, 10, 11] [0, 1] (by decide) (by simp) ?_; simp only [AR, AW6, simprocAttr]
    refine Run.nq ?_; refine Run.regionW hC (fun K hK => ?_); simp (disch := omega) only [wrap_id, AW6, simprocAttr, hX]; (repeat (with_reducible refine And.intro ?_ ?_); exact vc0); refine hK _ ?_; clear hK K; refine Run.nq ?_
    refine Run.le ?_ (ih ((ys2 ++ [(q2, z)], i + 1)) (⟨⟨by simp; omega, by simp; omega, h4⟩, hN3, hR3, (hmem _).2 (.inl hxm2), hD3, hyk4, hM3 _ (fun t ht => (hmem t).2 (.inl ht)) ((hmem z).2 (.inr rfl))⟩) (by (try simp only [List.length_append, List.length_cons, List.length_nil]); omega))
    exact Le.sub (by rfl) (by simp only [AW6, simprocAttr]; try simp)
  intro h5
  have h5 : z ∈ rw2 ys2 := by simpa using h5
  refine Run.reK hpin [0, 8, 9, 10, 11] [0, 1] (by decide) (by simp) ?_; simp only [AR, AW6, simprocAttr]
  refine Run.nq ?_; refine Run.regionW hC (fun K hK => ?_); simp (disch := omega) only [wrap_id, AW6, simprocAttr, hX]; (repeat (with_reducible refine And.intro ?_ ?_); exact vc0); refine hK _ ?_; clear hK K; refine Run.nq ?_
  refine Run.le ?_ (ih ((ys2, i + 1)) (⟨⟨hk2, hyl2, h4⟩, hN2, hR2, hxm2, hD2, hyk, hM3 _ (fun t ht => ht) h5⟩) (by (try simp only [List.length_append, List.length_cons, List.length_nil]); omega))
  exact Le.sub (by rfl) (by simp only [AW6, simprocAttr]; try simp)

theorem c_spec_CountChains (c : List (List Int)) (w : List Int) (hcl : c.length ≤ 1048576) :
    FunA B 14 [.sl false (.row false) c, .sl false .int w] (fun rs o => rs = [.int .i64 (cnZ c w)] ∧ o = []) := by
  refine FunA.walk B_ok (fn := Try.f14) (fun vs w => Try.call14 vs w) Try.func14 rfl (by rw [Try.ntmps14]; simp) (fun C hC hP hT hΓ hbt hfn hpin hfin => ?_); have hX := BX; rw [← hΓ, ← hbt.1, ← hbt.2] at hX; rw [Try.ntmps14]; simp only [AW6, simprocAttr, hX]
  refine Run.nq ?_; refine Run.regionW hC (fun K hK => ?_); simp only [AW6, simprocAttr, hX]; (repeat (with_reducible refine And.intro ?_ ?_); exact vc0); refine hK _ ?_; clear hK K; refine Run.nq ?_
  refine Run.nq ?_; refine Run.regionW hC (fun K hK => ?_); simp only [AW6, simprocAttr, hX]; (repeat (with_reducible refine And.intro ?_ ?_); exact vc0)
  refine FunA.callW hP hT (c_spec_ReducedWords c w hcl) (by simp only [AW6, simprocAttr]) ?_
  rintro rs o ⟨ys, g, nn, hys, rfl, rfl⟩
  (try simp only [AW6, simprocAttr, hX]); (repeat (with_reducible refine And.intro ?_ ?_); exact vc0)
  (repeat (with_reducible refine And.intro ?_ ?_); exact vc0); refine hK _ ?_; clear hK K; refine Run.nq ?_
  refine Run.nq ?_; refine Run.regionW hC (fun K hK => ?_); simp only [AW6, simprocAttr, hX]; (repeat (with_reducible refine And.intro ?_ ?_); exact vc0); refine hK _ ?_; clear hK K; refine Run.nq ?_
  refine Run.nq ?_; refine Run.condW (by simp only [AW6, simprocAttr, hX]; rfl) (by simp only [AW6, simprocAttr, hX]) ?_ ?_
  · intro h
    have h : cnB c w = false := by simpa using h
    refine Run.nq ?_; refine Run.regionW hC (fun K hK => ?_); simp only [AW6, simprocAttr, hX]; (repeat (with_reducible refine And.intro ?_ ?_); exact vc0); refine hK _ ?_; clear hK K; refine Run.nq ?_
    refine Run.reK hpin [4] [] (by decide) (by simp) ?_; simp only [AR, AW6, simprocAttr]
    refine Run.retW [4] (by decide) (by rw [hfn]; rfl) (by simp only [AW6, simprocAttr, hX]; rfl) (by simp only [AW6, simprocAttr, hX]) (hfin _ _ rfl rfl ?_)
    simp [cnZ, h]
  intro h
  have h : cnB c w = true := by simpa using h
  refine Run.nq ?_; refine Run.regionW hC (fun K hK => ?_); simp only [AW6, simprocAttr, hX]; (repeat (with_reducible refine And.intro ?_ ?_); exact vc0); refine hK _ ?_; clear hK K; refine Run.nq ?_
  refine Run.reK hpin [4] [] (by decide) (by simp) ?_; simp only [AR, AW6, simprocAttr]
  refine Run.retW [4] (by decide) (by rw [hfn]; rfl) (by simp only [AW6, simprocAttr, hX]; rfl) (by simp only [AW6, simprocAttr, hX]) (hfin _ _ rfl rfl ?_)
  simp [cnZ, h, hys h]
end Go.Proofs.Ytnhiamdnghgboaa

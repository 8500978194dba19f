/- The number of reduced words: the reference's side. -/
import Derived.Test.YtojcdgdbffmlpaaGreatB19
import Derived.Test.YtojcdgdbffmlpaaGreatB10
import Derived.Test.YtojcdgdbffmlpaaGreatB11
import Derived.Test.YtojcdgdbffmlpaaGreatB14
import Derived.Test.YtojcdgdbffmlpaaGreatB18
import Derived.Test.YtojcdgdbffmlpaaGreatB12
set_option linter.unusedVariables false
set_option linter.unusedSimpArgs false
namespace Go.Proofs.YtojcdgdbffmlpaaGreat
open Go Go.Aw Go.Cox
def RW (c : List (List Int)) (x w : List Int) : Prop := letters c.length w ∧ imageL c w = imageL c x ∧ w.length = x.length
theorem rw_all {c : List (List Int)} (hc : CartanP c) {x : List Int} (hx : Nf c x) (w : List Int) : w ∈ allW c x.length (imageL c x) ↔ RW c x w := allW_mem hc x.length x.length (hx.far hc) (Nat.le_refl _) w
theorem RW.step {c : List (List Int)} (hc : CartanP c) {x w : List Int} (h : RW c x w) {k : Nat} (hk : bmP c w k) : RW c x (bmX c w k) := by
  obtain ⟨h1, h2, h3⟩ := h
  obtain ⟨k1, k2⟩ := bmX_ok hc h1 hk
  exact ⟨k1, k2.trans h2, (bmX_len hk).trans h3⟩
def DoneB (c : List (List Int)) (L : List (List Int)) (k : Nat) : Prop := ∀ j, j < k → j < L.length → ∀ a, bmP c (L.getD j []) a → bmX c (L.getD j []) a ∈ L
theorem rw_count {c : List (List Int)} (hc : CartanP c) {x : List Int} (hx : Nf c x) {L : List (List Int)} (hn : L.Nodup) (hL : ∀ w ∈ L, RW c x w) (h0 : x ∈ L) (hD : DoneB c L L.length) : L.length = nW c x.length (imageL c x) := by
  have hin : ∀ w, w ∈ L ↔ w ∈ allW c x.length (imageL c x) := by
    intro w
    rw [rw_all hc hx]
    refine ⟨hL w, fun ⟨h1, h2, h3⟩ => ?_⟩
    exact red_closed hc (S := fun w => w ∈ L) (fun y hy _ a ha => by
      obtain ⟨j, hj, rfl⟩ := List.getElem_of_mem hy
      have := hD j hj hj a (by rw [getD_eq hj]; exact ha)
      rwa [getD_eq hj] at this) (hx.red hc) h1 h2 h3 h0
  rw [← allW_len]
  exact Nat.le_antisymm (nodup_le hn fun w hw => (hin w).1 hw) (nodup_le (allW_nodup _ _) fun w hw => (hin w).2 hw)
theorem srt_len_eq {L : List (List Int)} (hn : L.Nodup) : (srt L).length = L.length := by
  obtain ⟨h1, h2⟩ := srt_spec L
  have hs : (srt L).Nodup := List.Pairwise.imp (fun {a b} h e => by rw [e, cmpW_self] at h; omega) h1
  exact Nat.le_antisymm (nodup_le hs fun w hw => (h2 w).1 hw) (nodup_le hn fun w hw => (h2 w).2 hw)
set_option maxHeartbeats 1000000 in
theorem c_spec_ReducedWords (c : List (List Int)) (w : List Int) (hcl : c.length ≤ 1048576) :
    FunA B 143 [.sl false (.row false) c, .sl false .int w] (fun rs o => ∃ ys g nn, (cnB c w = true → ys.length = cnN c w) ∧ rs = [.own 0 g, .bool (cnB c w)] ∧ o = [.arr .lrow ys g nn]) := by
  refine FunA.walk B_ok (fn := Tryz.f143) (fun vs w => Tryz.call143 vs w) Tryz.func143 rfl (by rw [Tryz.ntmps143]; simp) (fun C hC hP hT hΓ hbt hfn hpin hfin => ?_); have hX := BX; rw [← hΓ, ← hbt.1, ← hbt.2] at hX; rw [Tryz.ntmps143]; simp only [AW7, simprocAttr, hX]
  refine Run.R ?_
  refine Run.nq ?_; refine Run.regionW hC (fun K hK => ?_); refine wW ?_
  refine FunA.cW hP hT (c_spec_NormalForm c w hcl) ?_
  rintro rs o ⟨rfl, rfl⟩
  refine wW ?_
  refine wE ?_; clear hK K
  refine Run.R ?_
  refine Run.nq ?_; refine Run.cW ?_ ?_
  · intro h
    have h : wordB c w = false := by
      cases hw : wordB c w with
      | false => rfl
      | true =>
        rw [hw, nfW_on hw] at h
        have := (word_nf hw).2
        rw [decide_eq_false (by omega : ¬ ((redL c w).length : Int) > 15)] at h
        simp at h
    have e1 : cnB c w = false := by simp [cnB, h]
    refine Run.R ?_
    refine Run.reK hpin [4, 5] [1] (by decide) (by simp) ?_; simp only [AR, AW7, simprocAttr]
    refine Run.rW [4, 5] (hfin _ _ rfl rfl ?_)
    exact ⟨[], 0, true, (fun h => by rw [e1] at h; cases h), by rw [e1], rfl⟩
  intro h
  have hwb : wordB c w = true := by
    cases hw : wordB c w with
    | true => rfl
    | false => rw [hw] at h; simp at h
  obtain ⟨hc, hw2, hw3⟩ := wordB_iff.1 hwb
  have hn := hc.2.1
  obtain ⟨hx, hx15⟩ := word_nf hwb
  rw [nfW_on hwb]
  have him : imageL c (redL c w) = imageL c w := (red_spec hc hw3 (by omega)).2.2.2.1
  have hcN : cnN c w = nW c (redL c w).length (imageL c (redL c w)) := by rw [him]; rfl
  have hcB : cnB c w = decide (cnN c w ≤ 120) := by simp [cnB, hwb]
  generalize hgx : redL c w = x at *
  refine Run.nq ?_; refine Run.regionW hC (fun K hK => ?_); refine wW ?_
  intro q hq
  (repeat (with_reducible refine And.intro ?_ ?_); exact vc0)
  refine wE ?_; clear hK K
  refine Run.R ?_
  refine Run.reK hpin [0, 8, 9] [1] (by decide) (by simp) ?_; simp only [AR, AW7, simprocAttr]
  refine Run.loopI (X := List (Nat × List Int) × Nat) (fun s => ⟨89, [(0, true, .v (.sl false (.row false) (c))), (8, true, .v (.own 0 0)), (9, true, .v (.int .i64 (s.2)))], [.arr .lrow (s.1) 0 true]⟩) (fun s => (s.2 ≤ s.1.length ∧ s.1.length ≤ 120) ∧ (rw2 s.1).Nodup ∧ (∀ z ∈ rw2 s.1, RW c x z) ∧ x ∈ rw2 s.1 ∧ DoneB c (rw2 s.1) s.2) (fun s => 121 - s.2) (([(q, x)], 0)) (⟨⟨by simp, by simp⟩, by simp [rw2], fun z hz => by simp [rw2] at hz; rw [hz]; exact ⟨hx.1, rfl, rfl⟩, by simp [rw2], fun j hj => by omega⟩) ?_ ?_
  · exact Le.sub (by first | rfl | simp) (by simp only [AW7, simprocAttr, hX]; try simp <;> try (first | rfl | exact ⟨rfl, rfl⟩ | exact ⟨rfl, rfl, rfl⟩))
  rintro ⟨ys, k⟩ ⟨⟨hk, hyl⟩, hN, hR, hxm, hD⟩ ihO
  try simp only []
  simp only [] at hk hyl hN hR hxm hD
  clear hq
  refine Run.R ?_
  refine Run.nq ?_; refine Run.cW ?_ ?_
  rotate_left
  · intro h3
    have hke : k = ys.length := by rw [decide_eq_false_iff_not] at h3; omega
    subst hke
    have hcnt := rw_count hc hx hN hR hxm (by rw [rwl]; exact hD)
    rw [rwl, ← hcN] at hcnt
    have e1 : cnB c w = true := by rw [hcB]; simp; omega
    refine Run.exit rfl ?_; refine Run.nq ?_
    refine Run.R ?_
    refine Run.R ?_
    refine Run.reK hpin [0, 8, 14, 15] [0, 1] (by decide) (by simp) ?_; simp only [AR, AW7, simprocAttr]
    refine Run.loopI (X := List (Nat × List Int) × Nat) (fun s => ⟨89, [(0, true, .v (.sl false (.row false) (c))), (8, true, .v (.own 0 0)), (14, true, .v (.own 1 0)), (15, true, .v (.int .i64 (s.2)))], [.arr .lrow (ys) 0 true, .arr .lrow (s.1) 0 true]⟩) (fun s => s.2 ≤ ys.length ∧ (lb1 s.1).Nodup ∧ rw2 s.1 = srt ((rw2 ys).take s.2)) (fun s => ys.length - s.2) (([], 0)) (⟨Nat.zero_le _, by simp [lb1], rfl⟩) ?_ ?_
    · exact Le.sub (by first | rfl | simp) (by simp only [AW7, simprocAttr, hX]; try simp <;> try (first | rfl | exact ⟨rfl, rfl⟩ | exact ⟨rfl, rfl, rfl⟩))
    rintro ⟨zs, i⟩ ⟨hi, hz1, hz2⟩ ih
    try simp only []
    simp only [] at hi hz1 hz2
    refine Run.R ?_
    refine Run.nq ?_; refine Run.cW ?_ ?_
    rotate_left
    · intro h4
      have hie : i = ys.length := by rw [decide_eq_false_iff_not] at h4; omega
      refine Run.exit rfl ?_; refine Run.nq ?_
      refine Run.R ?_
      refine Run.reK hpin [4, 5] [1] (by decide) (by simp) ?_; simp only [AR, AW7, simprocAttr]
      refine Run.rW [4, 5] (hfin _ _ rfl rfl ?_)
      refine ⟨zs, 0, true, fun _ => ?_, by rw [e1], rfl⟩
      have := congrArg List.length hz2
      rw [rwl, hie, show (rw2 ys).take ys.length = rw2 ys from List.take_of_length_le (by rw [rwl]; exact Nat.le_refl _), srt_len_eq hN, rwl] at this
      omega
    intro h4
    have h4 : i < ys.length := by rw [decide_eq_true_eq] at h4; omega
    have hzl : zs.length ≤ 120 := by
      have := congrArg List.length hz2
      have h5 := srt_len ((rw2 ys).take i)
      rw [rwl] at this
      simp at h5
      omega
    have hzi := hR _ (mem_rw2 h4)
    have hsn := take_snoc [] (rw2 ys) i (by rw [rwl]; exact h4)
    rw [← rwg] at hsn
    generalize hgz : (ys.getD i (0, [])).2 = z at *
    have hzle : z.length ≤ 15 := by have := hzi.2.2; omega
    refine Run.nq ?_; refine Run.regionW hC (fun K hK => ?_); refine wW ?_
    simp only [hgz]
    refine FunM.call hP hT (c_spec_l11Put zs z hz1 (by omega) (by omega) true) 1 0 (by simp only [AW7, simprocAttr]; rfl) (by simp) rfl (by simp only [AW7, simprocAttr]; try simp) ?_
    rintro rs o' obs' ⟨rfl, ys', hE3, hN3, h7⟩
    obtain ⟨rfl, rfl⟩ := List.cons.inj h7
    refine wW ?_
    refine wE ?_; clear hK K
    refine Run.reK hpin [0, 8, 14, 15] [0, 2] (by decide) (by simp) ?_; simp only [AR, AW7, simprocAttr]
    refine Run.RW ?_
    refine Run.le ?_ (ih ((ys', i + 1)) (⟨h4, hN3, by rw [hE3, hz2, ← srt_snoc, hsn]⟩) (by (try simp only [List.length_append, List.length_cons, List.length_nil]); omega))
    exact Le.sub (by rfl) (by simp only [AW7, simprocAttr]; try simp)
  intro h3
  have h3 : k < ys.length := by rw [decide_eq_true_eq] at h3; omega
  have hyp := hR _ (mem_rw2 h3)
  have hgy := rwg ys k
  generalize hgy2 : (ys.getD k (0, [])).2 = y at *
  have hy15 : y.length ≤ 15 := by have := hyp.2.2; omega
  have hWy : WordP c y := ⟨hc, hy15, hyp.1⟩
  have hbl : (bpL c y).length ≤ 15 := by have := bpT_len c y y.length; unfold bpL; omega
  refine Run.nq ?_; refine Run.regionW hC (fun K hK => ?_); refine wW ?_
  simp only [hgy2]
  refine FunA.cW hP hT (c_spec_BraidPlaces c y hWy) ?_
  rintro rs o ⟨rfl, rfl⟩
  refine wW ?_
  refine wE ?_; clear hK K
  refine Run.R ?_
  refine Run.reK hpin [0, 8, 9, 10, 11] [0, 1] (by decide) (by simp) ?_; simp only [AR, AW7, simprocAttr]
  refine Run.loopI (X := List (Nat × List Int) × Nat) (fun s => ⟨89, [(0, true, .v (.sl false (.row false) (c))), (8, true, .v (.own 0 0)), (9, true, .v (.int .i64 (k))), (10, true, .v (.own 1 0)), (11, true, .v (.int .i64 (s.2)))], [.arr .lrow (s.1) 0 true, .arr .int ((bpL c y)) 0 true]⟩) (fun s => (k < s.1.length ∧ s.1.length ≤ 120 ∧ s.2 ≤ (bpL c y).length) ∧ (rw2 s.1).Nodup ∧ (∀ z ∈ rw2 s.1, RW c x z) ∧ x ∈ rw2 s.1 ∧ DoneB c (rw2 s.1) k ∧ (rw2 s.1).getD k [] = y ∧ ∀ m, m < s.2 → bmX c y ((bpL c y).getD m 0).toNat ∈ rw2 s.1) (fun s => (bpL c y).length - s.2) ((ys, 0)) (⟨⟨h3, hyl, Nat.zero_le _⟩, hN, hR, hxm, hD, hgy.symm, fun m hm => by omega⟩) ?_ ?_
  · exact Le.sub (by first | rfl | simp) (by simp only [AW7, simprocAttr, hX]; try simp <;> try (first | rfl | exact ⟨rfl, rfl⟩ | exact ⟨rfl, rfl, rfl⟩))
  rintro ⟨ys2, i⟩ ⟨⟨hk2, hyl2, hi⟩, hN2, hR2, hxm2, hD2, hyk, hM⟩ ih
  try simp only []
  simp only [] at hk2 hyl2 hi hN2 hR2 hxm2 hD2 hyk hM
  clear hN hR hxm hD
  refine Run.R ?_
  refine Run.nq ?_; refine Run.cW ?_ ?_
  rotate_left
  · intro h4
    have hie : i = (bpL c y).length := by rw [decide_eq_false_iff_not] at h4; omega
    have hD3 : DoneB c (rw2 ys2) (k + 1) := by
      intro j hj hjl a ha
      by_cases e : j = k
      · rw [e, hyk] at ha ⊢
        have hin : (a : Int) ∈ bpL c y := bpL_mem.2 ⟨a, rfl, by have := ha.1; omega, ha⟩
        obtain ⟨m, hm, e2⟩ := List.getElem_of_mem hin
        have := hM m (by omega)
        rwa [getD_eq hm, e2, Int.toNat_natCast] at this
      · exact hD2 j (by omega) hjl a ha
    refine Run.exit rfl ?_; refine Run.nq ?_
    refine Run.reK hpin [0, 8, 9] [0] (by decide) (by simp) ?_; simp only [AR, AW7, simprocAttr]
    refine Run.RW ?_
    refine Run.le ?_ (ihO ((ys2, k + 1)) (⟨⟨hk2, hyl2⟩, hN2, hR2, hxm2, hD3⟩) (by (try simp only [List.length_append, List.length_cons, List.length_nil]); omega))
    exact Le.sub (by rfl) (by simp only [AW7, simprocAttr]; try simp)
  intro h4
  have h4 : i < (bpL c y).length := by rw [decide_eq_true_eq] at h4; omega
  obtain ⟨a, ha1, ha2, ha3⟩ := bpL_mem.1 (getD_mem h4)
  have hRz := hyp.step hc ha3
  have hby : byL c y a = bmX c y a := if_pos ha3
  have hyk3 : (ys2.getD k (0, [])).2 = y := by rw [rwg]; exact hyk
  refine Run.nq ?_; refine Run.regionD hC true [0,1,2,3,4,5,6,7,8,9,10,11,12,13,14] (by kernel_rfl) (fun K hK => ?_); simp only [AW7, simprocAttr, hX]; (repeat (with_reducible refine And.intro ?_ ?_); exact vc0)
  simp only [Int.toNat_natCast, hyk3, ha1]
  refine FunA.callD hP hT (c_spec_BraidAt c y a hWy ha2) (by simp only [AW7, simprocAttr]) ?_
  rintro rs o ⟨rfl, rfl⟩
  rw [hby]
  refine wW ?_
  refine wE ?_; clear hK K
  have hrl : ∀ r ∈ ys2.map (·.2), r.length ≤ 1048576 := fun r hr => by
    have := (hR2 r hr).2.2; omega
  generalize hgz : bmX c y a = z at *
  have hz15 : z.length ≤ 15 := by have := hRz.2.2; omega
  have hM3 : ∀ (L : List (List Int)), (∀ t ∈ rw2 ys2, t ∈ L) → z ∈ L → ∀ m, m < i + 1 → bmX c y ((bpL c y).getD m 0).toNat ∈ L := fun L q1 q2 m hm => by
    by_cases e : m = i
    · rw [e, ha1, Int.toNat_natCast, hgz]; exact q2
    · exact q1 _ (hM m (by omega))
  refine Run.nq ?_; refine Run.regionW hC (fun K hK => ?_); refine wW ?_
  refine FunA.cW hP hT (c_spec_l7In (ys2.map (·.2)) z (by simp; omega) hrl) ?_
  rintro rs o ⟨rfl, rfl⟩
  refine wW ?_
  refine wE ?_; clear hK K
  have hmap : ys2.map (·.2) = rw2 ys2 := rfl
  rw [hmap]
  refine Run.nq ?_; refine Run.cW ?_ ?_
  · intro h5
    have h5 : z ∉ rw2 ys2 := by simpa using h5
    refine Run.R ?_
    refine Run.nq ?_; refine Run.cW ?_ ?_
    · intro h6
      have h6 : 120 ≤ ys2.length := by rw [decide_eq_true_eq] at h6; omega
      have hbig : 121 ≤ cnN c w := by
        rw [hcN, ← allW_len]
        have := nodup_le (a := z :: rw2 ys2) (b := allW c x.length (imageL c x)) (List.nodup_cons.2 ⟨h5, hN2⟩) (fun t ht => by
          rw [rw_all hc hx]
          rcases List.mem_cons.1 ht with rfl | ht
          · exact hRz
          · exact hR2 t ht)
        simp [rw2] at this
        omega
      have e1 : cnB c w = false := by rw [hcB]; simp; omega
      refine Run.R ?_
      refine Run.reK hpin [4, 5] [3] (by decide) (by simp) ?_; simp only [AR, AW7, simprocAttr]
      refine Run.rW [4, 5] (hfin _ _ rfl rfl ?_)
      exact ⟨[], 0, true, (fun h => by rw [e1] at h; cases h), by rw [e1], rfl⟩
    intro h6
    have h6 : ys2.length < 120 := by rw [decide_eq_false_iff_not] at h6; omega
    refine Run.nq ?_; refine Run.regionW hC (fun K hK => ?_); refine wW ?_
    intro q2 hq2
    (repeat (with_reducible refine And.intro ?_ ?_); exact vc0)
    refine wE ?_; clear hK K
    have hmem : ∀ t, t ∈ rw2 (ys2 ++ [(q2, z)]) ↔ t ∈ rw2 ys2 ∨ t = z := fun t => by rw [rw2_app]; simp [rw2]
    have hget : ∀ j, j < ys2.length → (rw2 (ys2 ++ [(q2, z)])).getD j [] = (rw2 ys2).getD j [] := fun j hj => by
      rw [rw2_app, List.getD_eq_getElem?_getD, List.getElem?_append_left (by rw [rwl]; exact hj), ← List.getD_eq_getElem?_getD]
    have hN3 : (rw2 (ys2 ++ [(q2, z)])).Nodup := by
      rw [rw2_app]
      refine List.nodup_append.2 ⟨hN2, by simp [rw2], fun a ha b hb e => ?_⟩
      simp [rw2] at hb
      rw [e, hb] at ha
      exact h5 ha
    have hR3 : ∀ t ∈ rw2 (ys2 ++ [(q2, z)]), RW c x t := fun t ht => by
      rcases (hmem t).1 ht with ht | rfl
      · exact hR2 t ht
      · exact hRz
    have hD3 : DoneB c (rw2 (ys2 ++ [(q2, z)])) k := fun j hj hjl b hb => by
      rw [hget j (by omega)] at hb ⊢
      exact (hmem _).2 (.inl (hD2 j hj (by rw [rwl]; omega) b hb))
    have hyk4 : (rw2 (ys2 ++ [(q2, z)])).getD k [] = y := by rw [hget k hk2]; exact hyk
    refine Run.reK hpin [0, 8, 9, 10, 11] [0, 1] (by decide) (by simp) ?_; simp only [AR, AW7, simprocAttr]
    refine Run.RW ?_
    refine Run.le ?_ (ih ((ys2 ++ [(q2, z)], i + 1)) (⟨⟨by simp; omega, by simp; omega, h4⟩, hN3, hR3, (hmem _).2 (.inl hxm2), hD3, hyk4, hM3 _ (fun t ht => (hmem t).2 (.inl ht)) ((hmem z).2 (.inr rfl))⟩) (by (try simp only [List.length_append, List.length_cons, List.length_nil]); omega))
    exact Le.sub (by rfl) (by simp only [AW7, simprocAttr]; try simp)
  intro h5
  have h5 : z ∈ rw2 ys2 := by simpa using h5
  refine Run.reK hpin [0, 8, 9, 10, 11] [0, 1] (by decide) (by simp) ?_; simp only [AR, AW7, simprocAttr]
  refine Run.RW ?_
  refine Run.le ?_ (ih ((ys2, i + 1)) (⟨⟨hk2, hyl2, h4⟩, hN2, hR2, hxm2, hD2, hyk, hM3 _ (fun t ht => ht) h5⟩) (by (try simp only [List.length_append, List.length_cons, List.length_nil]); omega))
  exact Le.sub (by rfl) (by simp only [AW7, simprocAttr]; try simp)
theorem c_spec_CountChains (c : List (List Int)) (w : List Int) (hcl : c.length ≤ 1048576) :
    FunA B 51 [.sl false (.row false) c, .sl false .int w] (fun rs o => rs = [.int .i64 (cnZ c w)] ∧ o = []) := by
  refine FunA.walk B_ok (fn := Tryz.f51) (fun vs w => Tryz.call51 vs w) Tryz.func51 rfl (by rw [Tryz.ntmps51]; simp) (fun C hC hP hT hΓ hbt hfn hpin hfin => ?_); have hX := BX; rw [← hΓ, ← hbt.1, ← hbt.2] at hX; rw [Tryz.ntmps51]; simp only [AW7, simprocAttr, hX]
  refine Run.R ?_
  refine Run.nq ?_; refine Run.regionW hC (fun K hK => ?_); refine wW ?_
  refine FunA.cW hP hT (c_spec_ReducedWords c w hcl) ?_
  rintro rs o ⟨ys, g, nn, hys, rfl, rfl⟩
  refine wW ?_
  refine wE ?_; clear hK K
  refine Run.R ?_
  refine Run.nq ?_; refine Run.cW ?_ ?_
  · intro h
    have h : cnB c w = false := by simpa using h
    refine Run.R ?_
    refine Run.reK hpin [4] [] (by decide) (by simp) ?_; simp only [AR, AW7, simprocAttr]
    refine Run.rW [4] (hfin _ _ rfl rfl ?_)
    simp [cnZ, h]
  intro h
  have h : cnB c w = true := by simpa using h
  refine Run.R ?_
  refine Run.reK hpin [4] [] (by decide) (by simp) ?_; simp only [AR, AW7, simprocAttr]
  refine Run.rW [4] (hfin _ _ rfl rfl ?_)
  simp [cnZ, h, hys h]
end Go.Proofs.YtojcdgdbffmlpaaGreat
namespace Go.Proofs.YtojcdgdbffmlpaaGreat
open Go Go.Aw Go.Cox
theorem wk_br {c : List (List Int)} {u v : List Int} (h : wkB c u v = true) : brB c u v = true := by
  obtain ⟨hu, hv⟩ := wk_words h
  obtain ⟨hc, u1, u2⟩ := wordB_iff.1 hu
  obtain ⟨_, v1, v2⟩ := wordB_iff.1 hv
  obtain ⟨hx, hx15⟩ := word_nf hu
  obtain ⟨hy, hy15⟩ := word_nf hv
  obtain ⟨a1, a2, a3, a4, a5⟩ := red_spec hc u2 (by omega)
  obtain ⟨b1, b2, b3, b4, b5⟩ := red_spec hc v2 (by omega)
  have hxw : wordB c (redL c u) = true := wordB_iff.2 ⟨hc, hx15, hx.1⟩
  have hyw : wordB c (redL c v) = true := wordB_iff.2 ⟨hc, hy15, hy.1⟩
  have e : wkB c u v = wkB c (redL c u) (redL c v) := by
    unfold wkB
    rw [hu, hv, hxw, hyw, weak_same hc u2 a1 a4.symm b4.symm, hx.2.1, hy.2.1]
  rw [e, wkB_pre hc hy hy15 hx hx15] at h
  obtain ⟨_, _, t, t1, t2, t3⟩ := h
  have hxt := letters_append.2 ⟨hx.1, t1⟩
  have hR : Red c (redL c u ++ t) := Red.of hc hxt (hy.red hc) t2 (by simp; omega)
  exact (br_iff hu hv).2 (sub_word hc hR (by simp; omega) hy.1 t2.symm ⟨redL c u, List.sublist_append_left _ _, a4⟩)
theorem joinK {C : Ctx} {k k' : List Item} {σ σ' : St} (rest : Run C k' σ') (h : Run C k' σ' → Run C k σ) : Run C k σ := h rest
theorem com_eq {c : List (List Int)} {u v : List Int} (hu : wordB c u = true) (hv : wordB c v = true) : (wkB c u v != ((comN c u v : Int) == (if wordB c u = true then ((redL c u).length : Int) else -1))) = false := by
  rw [if_pos hu]
  have h := com_weak hu hv
  by_cases he : comN c u v = (redL c u).length
  · rw [h.2 he, he]; simp
  · have : wkB c u v = false := by
      cases hw : wkB c u v with
      | false => rfl
      | true => exact absurd (h.1 hw) he
    rw [this]
    have h2 : ((comN c u v : Int) == ((redL c u).length : Int)) = false := by
      rw [beq_eq_false_iff_ne]; omega
    rw [h2]; rfl
set_option maxHeartbeats 20000000 in
theorem c_FnWeak (code : List Int) (hwf : ∀ n ∈ code, (Lit.int .u8 n).wf = true) : FunA B 4 [.sl false .byte code] (fun rs _ => rs = [.bool true]) := by
  refine FunA.walk B_ok (fn := Tryz.f4) (fun vs w => Tryz.call4 vs w) Tryz.func4 rfl (by rw [Tryz.ntmps4]; simp) (fun C hC hP hT hΓ hbt hfn hpin hfin => ?_); have hX := BX; rw [← hΓ, ← hbt.1, ← hbt.2] at hX; rw [Tryz.ntmps4]; simp only [AW7, simprocAttr, hX]
  refine Run.R ?_
  refine Run.nq ?_; refine Run.regionW hC (fun K hK => ?_); refine wW ?_
  refine FunA.cW hP hT (c_big code) ?_
  rintro rs o ⟨rfl, rfl⟩
  refine wW ?_
  refine wE ?_; clear hK K
  refine Run.nq ?_; refine Run.cW ?_ ?_
  · intro _
    refine Run.R ?_
    refine Run.rW [2] (hfin _ _ rfl rfl ?_)
    rfl
  intro hb
  have hcl : code.length ≤ 1048576 := by
    have hb : ¬ 1048576 < code.length := by simpa using hb
    omega
  refine Run.nq ?_; refine Run.regionW hC (fun K hK => ?_); refine wW ?_
  refine FunA.cW hP hT (c_DrawIsWeakBelow code hcl) ?_
  rintro rs o ⟨c, u, v, ⟨c1, c2⟩, hul, hvl, rfl, rfl⟩
  refine wW ?_
  refine wE ?_; clear hK K
  refine Run.reK hpin [0, 3, 4, 5] [] (by decide) (by simp) ?_; simp only [AR, AW7, simprocAttr]
  refine Run.nq ?_; refine Run.regionW hC (fun K hK => ?_); refine wW ?_
  refine FunA.cW hP hT (c_impl_IsWeakBelow c u v (by omega)) ?_
  rintro rs o ⟨rfl, rfl⟩
  refine wW ?_
  refine wE ?_; clear hK K
  refine Run.nq ?_; refine Run.regionW hC (fun K hK => ?_); refine wW ?_
  refine FunA.cW hP hT (c_spec_IsWeakBelow c u v (by omega)) ?_
  rintro rs o ⟨rfl, rfl⟩
  refine wW ?_
  refine wE ?_; clear hK K
  refine Run.nq ?_; refine Run.cW ?_ ?_
  · intro h; simp at h
  intro _
  refine Run.reK hpin [0, 3, 4, 5, 6] [] (by decide) (by simp) ?_; simp only [AR, AW7, simprocAttr]
  apply joinK (σ' := ⟨263, [(0, true, .v (.sl false .byte code))], []⟩)
  case h =>
    intro rest
    by_cases hW : wordB c u = true ∧ wordB c v = true
    · obtain ⟨hu, hv⟩ := hW
      have hce := com_eq hu hv
      refine Run.nq ?_; refine Run.regionW hC (fun K hK => ?_); refine wW ?_
      refine FunA.cW hP hT (c_spec_IsWord c u (by omega)) ?_
      rintro rs o ⟨rfl, rfl⟩
      rw [hu]
      refine wW ?_
      refine .inr ⟨rfl, ?_⟩
      refine FunA.cW hP hT (c_spec_IsWord c v (by omega)) ?_
      rintro rs o ⟨rfl, rfl⟩
      rw [hv]
      refine wW ?_
      refine .inr ⟨rfl, ?_⟩
      refine FunA.cW hP hT (c_spec_CommonInversions c u v (wordB_iff.1 hu) (wordB_iff.1 hv)) ?_
      rintro rs o ⟨rfl, rfl⟩
      refine wW ?_
      refine .inr ⟨rfl, ?_⟩
      refine FunA.cW hP hT (c_spec_LengthOf c u (by omega)) ?_
      rintro rs o ⟨rfl, rfl⟩
      refine wW ?_
      rw [hce]
      simp only [AW7, simprocAttr, hX]
      cases hk : wkB c u v with
      | false =>
        refine .inl (CallG.off (.bool false) ?_)
        refine wW ?_
        refine wE ?_; clear hK K
        refine Run.nq ?_; refine Run.cW ?_ ?_
        · intro h; exact absurd h (by simp)
        intro _
        refine Run.reK hpin [0] [] (by decide) (by simp) ?_; simp only [AR, AW7, simprocAttr]
        refine Run.nq ?_
        exact rest
      | true =>
        have hbr := wk_br hk
        refine .inr ⟨rfl, ?_⟩
        refine FunA.cW hP hT (c_impl_IsBruhatBelow c u v (by omega)) ?_
        rintro rs o ⟨rfl, rfl⟩
        rw [hbr]
        refine wW ?_
        refine wE ?_; clear hK K
        refine Run.nq ?_; refine Run.cW ?_ ?_
        · intro h; exact absurd h (by simp)
        intro _
        refine Run.reK hpin [0] [] (by decide) (by simp) ?_; simp only [AR, AW7, simprocAttr]
        refine Run.nq ?_
        exact rest
    have hW : (wordB c u && wordB c v) = false := by
      cases h1 : wordB c u <;> cases h2 : wordB c v <;> simp_all
    cases hu : wordB c u with
    | false =>
      refine Run.nq ?_; refine Run.regionW hC (fun K hK => ?_); refine wW ?_
      refine FunA.cW hP hT (c_spec_IsWord c u (by omega)) ?_
      rintro rs o ⟨rfl, rfl⟩
      rw [hu]
      refine wW ?_
      refine .inl (CallG.off (.bool false) ?_)
      refine wW ?_
      refine .inl (CallG.off (.int .i64 0) ?_)
      refine wW ?_
      refine .inl (CallG.off (.int .i64 0) ?_)
      refine wW ?_
      refine .inl (CallG.off (.bool false) ?_)
      refine wW ?_
      refine wE ?_; clear hK K
      refine Run.nq ?_; refine Run.cW ?_ ?_
      · intro h; exact absurd h (by simp)
      intro _
      refine Run.reK hpin [0] [] (by decide) (by simp) ?_; simp only [AR, AW7, simprocAttr]
      refine Run.nq ?_
      exact rest
    | true =>
      have hv : wordB c v = false := by rw [hu] at hW; simpa using hW
      refine Run.nq ?_; refine Run.regionW hC (fun K hK => ?_); refine wW ?_
      refine FunA.cW hP hT (c_spec_IsWord c u (by omega)) ?_
      rintro rs o ⟨rfl, rfl⟩
      rw [hu]
      refine wW ?_
      refine .inr ⟨rfl, ?_⟩
      refine FunA.cW hP hT (c_spec_IsWord c v (by omega)) ?_
      rintro rs o ⟨rfl, rfl⟩
      rw [hv]
      refine wW ?_
      refine .inl (CallG.off (.int .i64 0) ?_)
      refine wW ?_
      refine .inl (CallG.off (.int .i64 0) ?_)
      refine wW ?_
      refine .inl (CallG.off (.bool false) ?_)
      refine wW ?_
      refine wE ?_; clear hK K
      refine Run.nq ?_; refine Run.cW ?_ ?_
      · intro h; exact absurd h (by simp)
      intro _
      refine Run.reK hpin [0] [] (by decide) (by simp) ?_; simp only [AR, AW7, simprocAttr]
      refine Run.nq ?_
      exact rest
  refine Run.nq ?_; refine Run.regionW hC (fun K hK => ?_); refine wW ?_
  refine FunA.cW hP hT (c_DrawMeetWeak code hcl) ?_
  rintro rs o ⟨d, a, b, ⟨d1, d2⟩, hal, hbl, rfl, rfl⟩
  refine wW ?_
  refine wE ?_; clear hK K
  refine Run.reK hpin [0, 7, 8, 9] [] (by decide) (by simp) ?_; simp only [AR, AW7, simprocAttr]
  refine Run.nq ?_; refine Run.regionW hC (fun K hK => ?_); refine wW ?_
  refine FunA.cW hP hT (c_impl_MeetWeak d a b (by omega)) ?_
  rintro rs o ⟨rfl, rfl⟩
  refine wW ?_
  refine wE ?_; clear hK K
  refine Run.nq ?_; refine Run.regionW hC (fun K hK => ?_); refine wW ?_
  refine FunA.cW hP hT (c_spec_MeetWeak d a b (by omega)) ?_
  rintro rs o ⟨rfl, rfl⟩
  refine wW ?_
  refine wE ?_; clear hK K
  refine Run.nq ?_; refine Run.regionW hC (fun K hK => ?_); refine wW ?_
  refine FunA.cW hP hT (c_impl_JoinWeak d a b (by omega)) ?_
  rintro rs o ⟨rfl, rfl⟩
  refine wW ?_
  refine wE ?_; clear hK K
  refine Run.nq ?_; refine Run.regionW hC (fun K hK => ?_); refine wW ?_
  refine FunA.cW hP hT (c_spec_JoinWeak d a b (by omega)) ?_
  rintro rs o ⟨rfl, rfl⟩
  refine wW ?_
  refine wE ?_; clear hK K
  refine Run.reK hpin [0, 7, 8, 9, 10, 11, 12, 13, 14, 15, 16, 17] [0, 1, 2, 3] (by decide) (by simp) ?_; simp only [AR, AW7, simprocAttr]
  refine Run.letgoK 0 [0, 7, 8, 9, 10, 11, 12, 13, 14, 15, 16, 17] rfl ?_; simp only [AL, frV_cons, frV_nil, AW7, simprocAttr]
  refine Run.letgoK 1 [0, 7, 8, 9, 10, 11, 12, 13, 14, 15, 16, 17] rfl ?_; simp only [AL, frV_cons, frV_nil, AW7, simprocAttr]
  refine Run.letgoK 2 [0, 7, 8, 9, 10, 11, 12, 13, 14, 15, 16, 17] rfl ?_; simp only [AL, frV_cons, frV_nil, AW7, simprocAttr]
  refine Run.letgoK 3 [0, 7, 8, 9, 10, 11, 12, 13, 14, 15, 16, 17] rfl ?_; simp only [AL, frV_cons, frV_nil, AW7, simprocAttr]
  refine Run.reK hpin [0, 7, 8, 9, 10, 11, 12, 13, 14, 15, 16, 17] [] (by decide) (by simp) ?_; simp only [AR, AW7, simprocAttr]
  have mtl := (mtX_word (c := d) (u := a) (v := b)).1
  have jnl := jnX_len d a b
  have hmm : (mtB d a b != mtB d a b) = false := by simp
  have hjj : (jnB d a b != jnB d a b) = false := by simp
  have hmx : (mtX d a b == mtX d a b) = true := by simp
  have hjx : (jnX d a b == jnX d a b) = true := by simp
  refine Run.nq ?_; refine Run.regionW hC (fun K hK => ?_); refine wW ?_
  rw [hmm]
  simp only [AW7, simprocAttr, hX]
  refine .inr ⟨rfl, ?_⟩
  refine FunA.cW hP hT (c_sameInts (mtX d a b) (mtX d a b) (by omega)) ?_
  rintro rs o ⟨rfl, rfl⟩
  rw [hmx]
  refine wW ?_
  rw [hjj]
  simp only [AW7, simprocAttr, hX]
  refine .inr ⟨rfl, ?_⟩
  refine FunA.cW hP hT (c_sameInts (jnX d a b) (jnX d a b) (by omega)) ?_
  rintro rs o ⟨rfl, rfl⟩
  rw [hjx]
  refine wW ?_
  refine wE ?_; clear hK K
  refine Run.nq ?_; refine Run.cW ?_ ?_
  · intro h; exact absurd h (by simp)
  intro _
  refine Run.reK hpin [0, 7, 8, 9, 11, 12, 15, 16] [] (by decide) (by simp) ?_; simp only [AR, AW7, simprocAttr]
  apply joinK (σ' := ⟨263, [(0, true, .v (.sl false .byte code))], []⟩)
  case h =>
    intro rest
    by_cases hW : wordB d a = true ∧ wordB d b = true
    · obtain ⟨ha, hbw⟩ := hW
      refine Run.nq ?_; refine Run.regionW hC (fun K hK => ?_); refine wW ?_
      refine FunA.cW hP hT (c_spec_IsWord d a (by omega)) ?_
      rintro rs o ⟨rfl, rfl⟩
      rw [ha]
      refine wW ?_
      refine .inr ⟨rfl, ?_⟩
      refine FunA.cW hP hT (c_spec_IsWord d b (by omega)) ?_
      rintro rs o ⟨rfl, rfl⟩
      rw [hbw]
      refine wW ?_
      refine wE ?_; clear hK K
      refine Run.nq ?_; refine Run.cW ?_ ?_
      rotate_left
      · intro h; exact absurd h (by simp)
      intro _
      refine Run.reK hpin [0, 7, 8, 9, 11, 12, 15, 16] [] (by decide) (by simp) ?_; simp only [AR, AW7, simprocAttr]
      refine Run.nq ?_; refine Run.regionW hC (fun K hK => ?_); refine wW ?_
      refine FunA.cW hP hT (c_letters code 20 d 4 hwf hcl (by omega) (by omega) (by omega)) ?_
      rintro rs o ⟨x, rfl, hxl, hxw, rfl⟩
      refine wW ?_
      refine wE ?_; clear hK K
      refine Run.reK hpin [0, 7, 8, 9, 11, 12, 15, 16, 18] [0] (by decide) (by simp) ?_; simp only [AR, AW7, simprocAttr]
      refine Run.letgoK 0 [0, 7, 8, 9, 11, 12, 15, 16, 18] rfl ?_; simp only [AL, frV_cons, frV_nil, AW7, simprocAttr]
      refine Run.reK hpin [0, 7, 8, 9, 11, 12, 15, 16, 18] [] (by decide) (by simp) ?_; simp only [AR, AW7, simprocAttr]
      apply joinK (σ' := ⟨263, [(0, true, .v (.sl false .byte code)), (7, true, .v (.sl true (.row true) d)), (8, true, .v (.sl true .int a)), (9, true, .v (.sl true .int b)), (15, true, .v (.bool (jnB d a b))), (16, true, .v (.sl true .int (jnX d a b))), (18, true, .v (.sl true .int x))], []⟩)
      case h =>
        intro rest2
        cases hM : mtB d a b with
        | false =>
          refine Run.nq ?_; refine Run.regionW hC (fun K hK => ?_); refine wW ?_
          refine .inl (CallG.off (.bool false) ?_)
          refine wW ?_
          refine .inl (CallG.off (.bool false) ?_)
          refine wW ?_
          refine .inl (CallG.off (.bool false) ?_)
          refine wW ?_
          refine .inl (CallG.off (.bool false) ?_)
          refine wW ?_
          refine .inl (CallG.off (.bool false) ?_)
          refine wW ?_
          refine wE ?_; clear hK K
          refine Run.nq ?_; refine Run.cW ?_ ?_
          · intro h; exact absurd h (by simp)
          intro _
          refine Run.reK hpin [0, 7, 8, 9, 15, 16, 18] [] (by decide) (by simp) ?_; simp only [AR, AW7, simprocAttr]
          refine Run.nq ?_
          exact rest2
        | true =>
          obtain ⟨m1, m2, m3, m4⟩ := meet_law hM
          refine Run.nq ?_; refine Run.regionW hC (fun K hK => ?_); refine wW ?_
          refine .inr ⟨rfl, ?_⟩
          refine FunA.cW hP hT (c_impl_IsWeakBelow d (mtX d a b) a (by omega)) ?_
          rintro rs o ⟨rfl, rfl⟩
          rw [m2]
          refine wW ?_
          refine .inr ⟨rfl, ?_⟩
          refine FunA.cW hP hT (c_impl_IsWeakBelow d (mtX d a b) b (by omega)) ?_
          rintro rs o ⟨rfl, rfl⟩
          rw [m3]
          refine wW ?_
          refine .inr ⟨rfl, ?_⟩
          refine FunA.cW hP hT (c_spec_IsWeakBelow d x a (by omega)) ?_
          rintro rs o ⟨rfl, rfl⟩
          cases h1 : wkB d x a with
          | false =>
            refine wW ?_
            refine .inl (CallG.off (.bool false) ?_)
            refine wW ?_
            refine .inl (CallG.off (.bool false) ?_)
            refine wW ?_
            refine wE ?_; clear hK K
            refine Run.nq ?_; refine Run.cW ?_ ?_
            · intro h; exact absurd h (by simp)
            intro _
            refine Run.reK hpin [0, 7, 8, 9, 15, 16, 18] [] (by decide) (by simp) ?_; simp only [AR, AW7, simprocAttr]
            refine Run.nq ?_
            exact rest2
          | true =>
            refine wW ?_
            refine .inr ⟨rfl, ?_⟩
            refine FunA.cW hP hT (c_spec_IsWeakBelow d x b (by omega)) ?_
            rintro rs o ⟨rfl, rfl⟩
            cases h2 : wkB d x b with
            | false =>
              refine wW ?_
              refine .inl (CallG.off (.bool false) ?_)
              refine wW ?_
              refine wE ?_; clear hK K
              refine Run.nq ?_; refine Run.cW ?_ ?_
              · intro h; exact absurd h (by simp)
              intro _
              refine Run.reK hpin [0, 7, 8, 9, 15, 16, 18] [] (by decide) (by simp) ?_; simp only [AR, AW7, simprocAttr]
              refine Run.nq ?_
              exact rest2
            | true =>
              have h3 := m4 x h1 h2
              refine wW ?_
              refine .inr ⟨rfl, ?_⟩
              refine FunA.cW hP hT (c_impl_IsWeakBelow d x (mtX d a b) (by omega)) ?_
              rintro rs o ⟨rfl, rfl⟩
              rw [h3]
              refine wW ?_
              refine wE ?_; clear hK K
              refine Run.nq ?_; refine Run.cW ?_ ?_
              · intro h; exact absurd h (by simp)
              intro _
              refine Run.reK hpin [0, 7, 8, 9, 15, 16, 18] [] (by decide) (by simp) ?_; simp only [AR, AW7, simprocAttr]
              refine Run.nq ?_
              exact rest2
      cases hJ : jnB d a b with
      | false =>
        refine Run.nq ?_; refine Run.regionW hC (fun K hK => ?_); refine wW ?_
        refine .inl (CallG.off (.bool false) ?_)
        refine wW ?_
        refine .inl (CallG.off (.bool false) ?_)
        refine wW ?_
        refine .inl (CallG.off (.bool false) ?_)
        refine wW ?_
        refine .inl (CallG.off (.bool false) ?_)
        refine wW ?_
        refine .inl (CallG.off (.bool false) ?_)
        refine wW ?_
        refine wE ?_; clear hK K
        refine Run.nq ?_; refine Run.cW ?_ ?_
        · intro h; exact absurd h (by simp)
        intro _
        refine Run.reK hpin [0] [] (by decide) (by simp) ?_; simp only [AR, AW7, simprocAttr]
        refine Run.nq ?_
        exact rest
      | true =>
        obtain ⟨m1, m2, m3, m4⟩ := join_law hJ
        refine Run.nq ?_; refine Run.regionW hC (fun K hK => ?_); refine wW ?_
        refine .inr ⟨rfl, ?_⟩
        refine FunA.cW hP hT (c_impl_IsWeakBelow d a (jnX d a b) (by omega)) ?_
        rintro rs o ⟨rfl, rfl⟩
        rw [m2]
        refine wW ?_
        refine .inr ⟨rfl, ?_⟩
        refine FunA.cW hP hT (c_impl_IsWeakBelow d b (jnX d a b) (by omega)) ?_
        rintro rs o ⟨rfl, rfl⟩
        rw [m3]
        refine wW ?_
        refine .inr ⟨rfl, ?_⟩
        refine FunA.cW hP hT (c_spec_IsWeakBelow d a x (by omega)) ?_
        rintro rs o ⟨rfl, rfl⟩
        cases h1 : wkB d a x with
        | false =>
          refine wW ?_
          refine .inl (CallG.off (.bool false) ?_)
          refine wW ?_
          refine .inl (CallG.off (.bool false) ?_)
          refine wW ?_
          refine wE ?_; clear hK K
          refine Run.nq ?_; refine Run.cW ?_ ?_
          · intro h; exact absurd h (by simp)
          intro _
          refine Run.reK hpin [0] [] (by decide) (by simp) ?_; simp only [AR, AW7, simprocAttr]
          refine Run.nq ?_
          exact rest
        | true =>
          refine wW ?_
          refine .inr ⟨rfl, ?_⟩
          refine FunA.cW hP hT (c_spec_IsWeakBelow d b x (by omega)) ?_
          rintro rs o ⟨rfl, rfl⟩
          cases h2 : wkB d b x with
          | false =>
            refine wW ?_
            refine .inl (CallG.off (.bool false) ?_)
            refine wW ?_
            refine wE ?_; clear hK K
            refine Run.nq ?_; refine Run.cW ?_ ?_
            · intro h; exact absurd h (by simp)
            intro _
            refine Run.reK hpin [0] [] (by decide) (by simp) ?_; simp only [AR, AW7, simprocAttr]
            refine Run.nq ?_
            exact rest
          | true =>
            have h3 := m4 x h1 h2
            refine wW ?_
            refine .inr ⟨rfl, ?_⟩
            refine FunA.cW hP hT (c_impl_IsWeakBelow d (jnX d a b) x (by omega)) ?_
            rintro rs o ⟨rfl, rfl⟩
            rw [h3]
            refine wW ?_
            refine wE ?_; clear hK K
            refine Run.nq ?_; refine Run.cW ?_ ?_
            · intro h; exact absurd h (by simp)
            intro _
            refine Run.reK hpin [0] [] (by decide) (by simp) ?_; simp only [AR, AW7, simprocAttr]
            refine Run.nq ?_
            exact rest
    have hW : (wordB d a && wordB d b) = false := by
      cases h1 : wordB d a <;> cases h2 : wordB d b <;> simp_all
    refine Run.nq ?_; refine Run.regionW hC (fun K hK => ?_); refine wW ?_
    refine FunA.cW hP hT (c_spec_IsWord d a (by omega)) ?_
    rintro rs o ⟨rfl, rfl⟩
    refine wW ?_
    refine .inl (FunA.callG hP hT (c_spec_IsWord d b (by omega)) (fun _ => rfl) (fun _ => by simp only [AW7, simprocAttr]) ?_)
    refine wW ?_
    refine wE ?_; clear hK K
    refine Run.nq ?_; refine Run.cW ?_ ?_
    · intro h
      exfalso
      revert h hW
      cases wordB d a <;> cases wordB d b <;> simp
    intro _
    refine Run.reK hpin [0] [] (by decide) (by simp) ?_; simp only [AR, AW7, simprocAttr]
    refine Run.nq ?_
    exact rest
  refine Run.nq ?_; refine Run.regionW hC (fun K hK => ?_); refine wW ?_
  refine FunA.cW hP hT (c_DrawWeakCovers code hcl) ?_
  rintro rs o ⟨e, w, ⟨e1, e2⟩, hw, rfl, rfl⟩
  refine wW ?_
  refine wE ?_; clear hK K
  refine Run.nq ?_; refine Run.regionW hC (fun K hK => ?_); refine wW ?_
  refine FunA.cW hP hT (c_DrawPrefixesOf code hcl) ?_
  rintro rs o ⟨f, y, ⟨f1, f2⟩, hy, rfl, rfl⟩
  refine wW ?_
  refine wE ?_; clear hK K
  refine Run.reK hpin [0, 19, 20, 21, 22] [] (by decide) (by simp) ?_; simp only [AR, AW7, simprocAttr]
  refine Run.nq ?_; refine Run.regionW hC (fun K hK => ?_); refine wW ?_
  refine FunA.cW hP hT (c_impl_PrefixesOf f y (by omega)) ?_
  rintro rs o ⟨rfl, s1, _, rfl⟩
  refine wW ?_
  refine wE ?_; clear hK K
  refine Run.nq ?_; refine Run.regionW hC (fun K hK => ?_); refine wW ?_
  refine FunA.cW hP hT (c_spec_PrefixesOf f y (by omega)) ?_
  rintro rs o ⟨rfl, s2, _, rfl⟩
  refine wW ?_
  refine wE ?_; clear hK K
  refine Run.reK hpin [0, 19, 20, 23, 24, 25, 26] [0, 1] (by decide) (by simp) ?_; simp only [AR, AW7, simprocAttr]
  refine Run.nq ?_; refine Run.regionW hC (fun K hK => ?_); refine wW ?_
  refine FunA.cW hP hT (c_DrawCountChains code hcl) ?_
  rintro rs o ⟨g, z, ⟨g1, g2⟩, hz, rfl, rfl⟩
  refine wW ?_
  refine wE ?_; clear hK K
  refine Run.reK hpin [19, 20, 23, 24, 25, 26, 27, 28] [0, 1] (by decide) (by simp) ?_; simp only [AR, AW7, simprocAttr]
  have p1 := preX_len f y
  have p2 := preX_rows f y
  have q1 := wcv_len e w
  have q2 := wcv_rows e w
  have hpp : (preX f y == preX f y) = true := by simp
  have hpb : (preB f y == preB f y) = true := by simp
  have hww : (wcv e w == wcv e w) = true := by simp
  have hcc : (cnZ g z == cnZ g z) = true := by simp
  refine Run.nq ?_; refine Run.regionW hC (fun K hK => ?_); refine wW ?_
  refine FunA.cW hP hT (c_impl_WeakCovers e w (by omega)) ?_
  rintro rs o ⟨rfl, s3, _, rfl⟩
  refine wW ?_
  refine FunA.cW hP hT (c_spec_WeakCovers e w (by omega)) ?_
  rintro rs o ⟨rfl, s4, _, rfl⟩
  refine wW ?_
  refine FunA.callW hP hT (c_sameWords (wcv e w) (wcv e w) (by omega) (fun r hr => by have := q2 r hr; omega)) (by simp only [AW7, simprocAttr]; first | done | exact ⟨⟨rfl, rfl⟩, rfl, rfl⟩ | simp [argO, convV]) ?_
  rintro rs o ⟨rfl, rfl⟩
  rw [hww]
  refine wW ?_
  refine .inr ⟨rfl, ?_⟩
  refine FunA.callW hP hT (c_sameWords (preX f y) (preX f y) (by omega) (fun r hr => by have := p2 r hr; omega)) (by simp only [AW7, simprocAttr]; first | done | exact ⟨⟨rfl, rfl⟩, rfl, rfl⟩ | simp [argO, convV]) ?_
  rintro rs o ⟨rfl, rfl⟩
  rw [hpp]
  refine wW ?_
  refine .inr ⟨rfl, ?_⟩
  refine FunA.cW hP hT (c_impl_CountChains g z (by omega)) ?_
  rintro rs o ⟨rfl, rfl⟩
  refine wW ?_
  refine .inr ⟨rfl, ?_⟩
  refine FunA.cW hP hT (c_spec_CountChains g z (by omega)) ?_
  rintro rs o ⟨rfl, rfl⟩
  refine wW ?_
  refine wE ?_; clear hK K
  refine Run.rW [2] (hfin _ _ rfl rfl ?_)
  rfl
end Go.Proofs.YtojcdgdbffmlpaaGreat

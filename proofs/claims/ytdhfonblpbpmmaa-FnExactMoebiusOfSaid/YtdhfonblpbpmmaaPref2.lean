/- The elements below an element in the weak order: what the program does. -/
import Derived.Test.YtdhfonblpbpmmaaPref
import Derived.Test.YtdhfonblpbpmmaaFmt
set_option linter.unusedVariables false
set_option linter.unusedSimpArgs false
namespace Go.Proofs.Ytdhfonblpbpmmaa
open Go Go.Aw Go.Cox

/-- What the search knows: rows, and the map of what it has seen. -/
def Seen (n : Nat) (ys : List (Nat × List Int)) (l : List (MK × MV)) : Prop :=
  (lb1 ys).Nodup ∧ (rw2 ys).Nodup ∧ (∀ z ∈ rw2 ys, letters n z) ∧ ∀ z, letters n z → (mgetB l (.str (fmtW z)) = true ↔ z ∈ rw2 ys)
theorem Seen.start {n : Nat} (hn : n ≤ 4) {x : List Int} (hx : letters n x) (q : Nat) : Seen n [(q, x)] (mput [] (.str (fmtW x)) (.bool true)) := by
  have up : ∀ z, letters n z → letters 4 z := fun z hz i hi => by have := hz i hi; omega
  refine ⟨by simp [lb1], by simp [rw2], fun z hz => by simp [rw2] at hz; rw [hz]; exact hx, fun z hz => ?_⟩
  rw [mgetB_put]
  by_cases h : z = x
  · rw [h, if_pos rfl]; simp [rw2]
  · rw [if_neg (fun e => h (fmtW_inj (up z hz) (up x hx) (MK.str.inj e))), mgetB_nil]; simp [rw2, h]
theorem Seen.add {n : Nat} (hn : n ≤ 4) {ys : List (Nat × List Int)} {l : List (MK × MV)} (h : Seen n ys l) {x : List Int} (hx : letters n x) {q : Nat} (hq : ∀ p ∈ ys, p.1 ≠ q) (hnew : mgetB l (.str (fmtW x)) = false) : Seen n (ys ++ [(q, x)]) (mput l (.str (fmtW x)) (.bool true)) := by
  have up : ∀ z, letters n z → letters 4 z := fun z hz i hi => by have := hz i hi; omega
  obtain ⟨h1, h2, h3, h4⟩ := h
  have hnot : x ∉ rw2 ys := fun hm => by rw [(h4 x hx).2 hm] at hnew; cases hnew
  refine ⟨?_, ?_, fun z hz => ?_, fun z hz => ?_⟩
  · rw [lb1_app, List.nodup_append]
    refine ⟨h1, by simp [lb1], fun a ha b hb => ?_⟩
    simp [lb1] at hb
    obtain ⟨p, hp, rfl⟩ := List.mem_map.1 ha
    rw [hb]; exact hq p hp
  · rw [rw2_app, List.nodup_append]
    refine ⟨h2, by simp [rw2], fun a ha b hb => ?_⟩
    simp [rw2] at hb
    rw [hb]; intro e; exact hnot (e ▸ ha)
  · rw [rw2_app] at hz
    rcases List.mem_append.1 hz with hz | hz
    · exact h3 z hz
    · simp [rw2] at hz; rw [hz]; exact hx
  · rw [mgetB_put, rw2_app, List.mem_append]
    by_cases e : z = x
    · rw [e, if_pos rfl]; simp [rw2]
    · rw [if_neg (fun e2 => e (fmtW_inj (up z hz) (up x hx) (MK.str.inj e2))), h4 z hz]; simp [rw2, e]

/-- Row k and those ahead of it are worked off; of row k itself the letters below i. -/
def Done (c : List (List Int)) (ys : List (Nat × List Int)) (k i : Nat) : Prop := ∀ j, j < ys.length → ∀ a, a < c.length → (j < k ∨ (j = k ∧ a < i)) → (redL c ((ys.getD j (0, [])).2 ++ [(a : Int)])).length < (ys.getD j (0, [])).2.length → redL c ((ys.getD j (0, [])).2 ++ [(a : Int)]) ∈ rw2 ys

theorem getD_app {ys : List (Nat × List Int)} {j : Nat} (h : j < ys.length) (t : List (Nat × List Int)) : (ys ++ t).getD j (0, []) = ys.getD j (0, []) := by
  simp only [List.getD]; rw [List.getElem?_append_left h]
theorem mem_rw2 {ys : List (Nat × List Int)} {j : Nat} (h : j < ys.length) : (ys.getD j (0, [])).2 ∈ rw2 ys := by
  rw [getD_eq h]; exact List.mem_map.2 ⟨_, List.getElem_mem h, rfl⟩
theorem mem_rw2_iff {ys : List (Nat × List Int)} {z : List Int} : z ∈ rw2 ys ↔ ∃ j, j < ys.length ∧ (ys.getD j (0, [])).2 = z := by
  constructor
  · intro h
    obtain ⟨p, hp, rfl⟩ := List.mem_map.1 h
    obtain ⟨j, hj, rfl⟩ := List.getElem_of_mem hp
    exact ⟨j, hj, by rw [getD_eq hj]⟩
  · rintro ⟨j, hj, rfl⟩; exact mem_rw2 hj

set_option maxHeartbeats 4000000 in
theorem c_impl_prefixes (c : List (List Int)) (w : List Int) (hc : CartanP c) (hw : letters c.length w) (hl : w.length ≤ 31) (hr : (redL c w).length ≤ 30) :
    FunA B 37 [.sl false (.row false) c, .sl false .int w] (fun rs o => ∃ ys g nn rest, (rw2 ys = fewL (Pre c (redL c w)) ∧ nn = true ∧ rest = [.bool (fewB (Pre c (redL c w)))]) ∧ (lb1 ys).Nodup ∧ rest.all flatAV = true ∧ rs = .own 0 g :: rest ∧ o = [.arr .lrow ys g nn]) := by
  have hn := hc.2.1
  have up : ∀ z, letters c.length z → letters 4 z := fun z hz i hi => by have := hz i hi; omega
  have hx : Nf c (redL c w) := nf_red hc hw hl hr
  refine FunA.walk B_ok (fn := Try.f37) (fun vs w => Try.call37 vs w) Try.func37 rfl (by rw [Try.ntmps37]; simp) (fun C hC hP hT hΓ hbt hfn hpin hfin => ?_); have hX := BX; rw [← hΓ, ← hbt.1, ← hbt.2] at hX; rw [Try.ntmps37]; simp only [AW7, simprocAttr, hX]
  refine Run.nq ?_; refine Run.regionW hC (fun K hK => ?_); simp only [AW7, simprocAttr, hX]; (repeat (with_reducible refine And.intro ?_ ?_); exact vc0); refine hK _ ?_; clear hK K; refine Run.nq ?_
  refine Run.nq ?_; refine Run.regionW hC (fun K hK => ?_); simp only [AW7, simprocAttr, hX]; (repeat (with_reducible refine And.intro ?_ ?_); exact vc0)
  refine FunA.callW hP hT (c_impl_reduced c w hc hw hl) (by simp only [AW7, simprocAttr]) ?_
  rintro rs o ⟨rfl, rfl⟩
  (try simp only [AW7, simprocAttr, hX]); (repeat (with_reducible refine And.intro ?_ ?_); exact vc0)
  intro q hq
  (try simp only [AW7, simprocAttr, hX]); (repeat (with_reducible refine And.intro ?_ ?_); exact vc0)
  (repeat (with_reducible refine And.intro ?_ ?_); exact vc0); refine hK _ ?_; clear hK K; refine Run.nq ?_
  generalize hgx : redL c w = x at *
  have hg0 : [(q, x)].getD 0 (0, []) = (q, x) := rfl
  refine Run.nq ?_; refine Run.regionW hC (fun K hK => ?_); simp only [AW7, simprocAttr, hX]; (repeat (with_reducible refine And.intro ?_ ?_); exact vc0)
  simp only [hg0]
  refine FunA.callW hP hT (c_impl_FormatWord x (up x hx.1) (by have := hx.2.2; omega)) (by simp only [AW7, simprocAttr]) ?_
  rintro rs o ⟨rfl, rfl⟩
  (try simp only [AW7, simprocAttr, hX]); (repeat (with_reducible refine And.intro ?_ ?_); exact vc0)
  (repeat (with_reducible refine And.intro ?_ ?_); exact vc0); refine hK _ ?_; clear hK K; refine Run.nq ?_
  refine Run.nq ?_; refine Run.regionW hC (fun K hK => ?_); simp only [AW7, simprocAttr, hX]; (repeat (with_reducible refine And.intro ?_ ?_); exact vc0); refine hK _ ?_; clear hK K; refine Run.nq ?_
  refine Run.reK hpin [0, 6, 7, 8] [1, 2] (by decide) (by simp) ?_; simp only [AR, AW7, simprocAttr]
  have hD0 : Done c [(q, x)] 0 0 := fun j _ a _ h => by omega
  refine Run.loopI (X := List (Nat × List Int) × List (MK × MV) × Nat) (fun s => ⟨73, [(0, true, .v (.sl false (.row false) (c))), (6, true, .v (.own 0 0)), (7, true, .v (.own 1 0)), (8, true, .v (.int .i64 (s.2.2)))], [.arr .lrow (s.1) 0 true, .mp ⟨false, false⟩ s.2.1 0]⟩) (fun s => (s.2.2 ≤ s.1.length ∧ s.1.length ≤ 200) ∧ Seen c.length s.1 s.2.1 ∧ (∀ z ∈ rw2 s.1, Pre c x z) ∧ x ∈ rw2 s.1 ∧ Done c s.1 s.2.2 0) (fun s => 201 - s.2.2) (([(q, x)], mput [] (.str (fmtW x)) (.bool true), 0)) (⟨⟨by simp, by simp⟩, Seen.start hn hx.1 q, fun z hz => by simp [rw2] at hz; rw [hz]; exact Pre.refl hx, by simp [rw2], hD0⟩) ?_ ?_
  · exact Le.sub (by first | rfl | simp) (by simp only [AW7, simprocAttr, hX]; try simp <;> try (first | rfl | exact ⟨rfl, rfl⟩ | exact ⟨rfl, rfl, rfl⟩))
  rintro ⟨ys, l, k⟩ ⟨⟨hk, hyl⟩, hS, hPr, hxm, hD⟩ ihO
  try simp only []
  simp only [] at hk hyl hS hPr hxm hD
  clear hD0 hg0 hq
  refine Run.nq ?_; refine Run.regionW hC (fun K hK => ?_); simp only [AW7, simprocAttr, hX]; (repeat (with_reducible refine And.intro ?_ ?_); exact vc0); refine hK _ ?_; clear hK K; refine Run.nq ?_
  refine Run.nq ?_; refine Run.condW (by simp only [AW7, simprocAttr, hX]; rfl) (by simp only [AW7, simprocAttr, hX]) ?_ ?_
  rotate_left
  · intro h
    have hke : k = ys.length := by rw [decide_eq_false_iff_not] at h; omega
    have hcomp : ∀ z, z ∈ rw2 ys ↔ Pre c x z := Pre.mem_down hc hx hPr hxm (fun y hy i hi hlt => by
      obtain ⟨j, hj, rfl⟩ := mem_rw2_iff.1 hy
      exact hD j hj i hi (.inl (by omega)) hlt)
    have hrl : (rw2 ys).length ≤ 200 := by simpa [rw2] using hyl
    obtain ⟨e1, e2⟩ := few_on hS.2.1 hcomp hrl
    have hlen : ∀ a, (a = [] ∨ a ∈ ys.map (·.2)) → a.length ≤ 1048576 := fun a ha => by
      rcases ha with rfl | ha
      · simp
      · have := ((hPr a ha).nf hx).2.2; omega
    refine Run.exit rfl ?_; refine Run.nq ?_
    refine Run.nq ?_; refine Run.regionW hC (fun K hK => ?_); simp only [AW7, simprocAttr, hX]; (repeat (with_reducible refine And.intro ?_ ?_); exact vc0)
    refine ACall.sort hP hT srtL rfl cmpW_swo 0 0 rfl (by omega) (fun a b ha _ => c_impl_CompareWords a b (hlen a ha)) ?_
    intro ys' hp hs
    (try simp only [AW7, simprocAttr, hX]); (repeat (with_reducible refine And.intro ?_ ?_); exact vc0)
    (repeat (with_reducible refine And.intro ?_ ?_); exact vc0); refine hK _ ?_; clear hK K; refine Run.nq ?_
    refine Run.nq ?_; refine Run.regionW hC (fun K hK => ?_); simp only [AW7, simprocAttr, hX]; (repeat (with_reducible refine And.intro ?_ ?_); exact vc0); refine hK _ ?_; clear hK K; refine Run.nq ?_
    refine Run.reK hpin [4, 5] [0] (by decide) (by simp) ?_; simp only [AR, AW7, simprocAttr]
    refine Run.retW [4, 5] (by decide) (by rw [hfn]; rfl) (by simp only [AW7, simprocAttr, hX]; rfl) (by simp only [AW7, simprocAttr, hX]) (hfin _ _ rfl rfl ?_)
    refine ⟨ys', 0, true, [.bool true], ⟨?_, rfl, by rw [e1]⟩, ?_, rfl, rfl, rfl⟩
    · rw [e2]; exact sorted_srt hS.2.1 (hp.map _) (List.pairwise_map.2 hs)
    · exact (hp.map _).nodup_iff.2 hS.1
  intro h
  have h : k < ys.length := by rw [decide_eq_true_eq] at h; omega
  refine Run.nq ?_; refine Run.regionW hC (fun K hK => ?_); simp only [AW7, simprocAttr, hX]; (repeat (with_reducible refine And.intro ?_ ?_); exact vc0); refine hK _ ?_; clear hK K; refine Run.nq ?_
  refine Run.reK hpin [0, 6, 7, 8, 29, 30] [0, 1] (by decide) (by simp) ?_; simp only [AR, AW7, simprocAttr]
  refine Run.loopI (X := List (Nat × List Int) × List (MK × MV) × Nat) (fun s => ⟨73, [(0, true, .v (.sl false (.row false) (c))), (6, true, .v (.own 0 0)), (7, true, .v (.own 1 0)), (8, true, .v (.int .i64 (k))), (29, true, .v (.int .i64 (c.length))), (30, true, .v (.int .i64 (s.2.2)))], [.arr .lrow (s.1) 0 true, .mp ⟨false, false⟩ s.2.1 0]⟩) (fun s => (k < s.1.length ∧ s.1.length ≤ 200 + s.2.2 ∧ s.2.2 ≤ c.length) ∧ Seen c.length s.1 s.2.1 ∧ (∀ z ∈ rw2 s.1, Pre c x z) ∧ x ∈ rw2 s.1 ∧ Done c s.1 k s.2.2) (fun s => c.length - s.2.2) ((ys, l, 0)) (⟨⟨h, by simp only []; omega, Nat.zero_le _⟩, hS, hPr, hxm, hD⟩) ?_ ?_
  · exact Le.sub (by first | rfl | simp) (by simp only [AW7, simprocAttr, hX]; try simp <;> try (first | rfl | exact ⟨rfl, rfl⟩ | exact ⟨rfl, rfl, rfl⟩))
  rintro ⟨ys2, l2, i⟩ ⟨⟨hk2, hyl2, hi⟩, hS2, hPr2, hxm2, hD2⟩ ih
  try simp only []
  simp only [] at hk2 hyl2 hi hS2 hPr2 hxm2 hD2
  clear hS hPr hxm hD
  refine Run.nq ?_; refine Run.regionW hC (fun K hK => ?_); simp only [AW7, simprocAttr, hX]; (repeat (with_reducible refine And.intro ?_ ?_); exact vc0); refine hK _ ?_; clear hK K; refine Run.nq ?_
  refine Run.nq ?_; refine Run.condW (by simp only [AW7, simprocAttr, hX]; rfl) (by simp only [AW7, simprocAttr, hX]) ?_ ?_
  rotate_left
  · intro h3
    have hie : i = c.length := by rw [decide_eq_false_iff_not] at h3; omega
    refine Run.exit rfl ?_; refine Run.nq ?_
    refine Run.nq ?_; refine Run.regionW hC (fun K hK => ?_); simp only [AW7, simprocAttr, hX]; (repeat (with_reducible refine And.intro ?_ ?_); exact vc0); refine hK _ ?_; clear hK K; refine Run.nq ?_
    refine Run.nq ?_; refine Run.condW (by simp only [AW7, simprocAttr, hX]; rfl) (by simp only [AW7, simprocAttr, hX]) ?_ ?_
    · intro h4
      have h4 : 200 < (rw2 ys2).length := by rw [decide_eq_true_eq] at h4; simp [rw2]; omega
      obtain ⟨e1, e2⟩ := few_off hS2.2.1 hPr2 h4
      refine Run.nq ?_; refine Run.regionW hC (fun K hK => ?_); simp only [AW7, simprocAttr, hX]; (repeat (with_reducible refine And.intro ?_ ?_); exact vc0); refine hK _ ?_; clear hK K; refine Run.nq ?_
      refine Run.reK hpin [4, 5] [2] (by decide) (by simp) ?_; simp only [AR, AW7, simprocAttr]
      refine Run.retW [4, 5] (by decide) (by rw [hfn]; rfl) (by simp only [AW7, simprocAttr, hX]; rfl) (by simp only [AW7, simprocAttr, hX]) (hfin _ _ rfl rfl ?_)
      exact ⟨[], 0, true, [.bool false], ⟨by rw [e2]; rfl, rfl, by rw [e1]⟩, by simp [lb1], rfl, rfl, rfl⟩
    intro h4
    have h4 : ys2.length ≤ 200 := by rw [decide_eq_false_iff_not] at h4; omega
    have hD3 : Done c ys2 (k + 1) 0 := fun j hj a ha hja => hD2 j hj a ha (by omega)
    refine Run.reK hpin [0, 6, 7, 8] [0, 1] (by decide) (by simp) ?_; simp only [AR, AW7, simprocAttr]
    refine Run.nq ?_; refine Run.regionW hC (fun K hK => ?_); simp (disch := omega) only [wrap_id, AW7, simprocAttr, hX]; (repeat (with_reducible refine And.intro ?_ ?_); exact vc0); refine hK _ ?_; clear hK K; refine Run.nq ?_
    refine Run.le ?_ (ihO ((ys2, l2, k + 1)) (⟨⟨hk2, h4⟩, hS2, hPr2, hxm2, hD3⟩) (by (try simp only [List.length_append, List.length_cons, List.length_nil]); omega))
    exact Le.sub (by rfl) (by simp only [AW7, simprocAttr]; try simp)
  intro h3
  have h3 : i < c.length := by rw [decide_eq_true_eq] at h3; omega
  have hy := hPr2 _ (mem_rw2 hk2)
  have hny := hy.nf hx
  generalize hgy : (ys2.getD k (0, [])).2 = y at *
  have hlet : letters c.length (y ++ [(i : Int)]) := letters_append.2 ⟨hny.1, letter1 h3⟩
  have hyb := hny.2.2
  obtain ⟨a1, a2, a3, a4, a5⟩ := red_spec hc hlet (by simp; omega)
  refine Run.nq ?_; refine Run.regionW hC (fun K hK => ?_); simp only [AW7, simprocAttr, hX]; (repeat (with_reducible refine And.intro ?_ ?_); exact vc0); refine hK _ ?_; clear hK K; refine Run.nq ?_
  refine Run.nq ?_; refine Run.regionW hC (fun K hK => ?_); simp only [AW7, simprocAttr, hX]; (repeat (with_reducible refine And.intro ?_ ?_); exact vc0)
  simp only [hgy]
  refine FunA.callW hP hT (c_slices_Clone y (by omega)) (by simp only [AW7, simprocAttr]) ?_
  rintro rs o ⟨nn2, rfl, rfl⟩
  (try simp only [AW7, simprocAttr, hX]); (repeat (with_reducible refine And.intro ?_ ?_); exact vc0)
  refine FunA.callW hP hT (c_impl_reduced c (y ++ [(i : Int)]) hc hlet (by simp; omega)) (by simp only [AW7, simprocAttr]) ?_
  rintro rs o ⟨rfl, rfl⟩
  (try simp only [AW7, simprocAttr, hX]); (repeat (with_reducible refine And.intro ?_ ?_); exact vc0)
  (repeat (with_reducible refine And.intro ?_ ?_); exact vc0); refine hK _ ?_; clear hK K; refine Run.nq ?_
  generalize hgd : redL c (y ++ [(i : Int)]) = d at *
  have hdl : d.length ≤ 31 := by simp at a2; omega
  refine Run.nq ?_; refine Run.regionW hC (fun K hK => ?_); simp only [AW7, simprocAttr, hX]; (repeat (with_reducible refine And.intro ?_ ?_); exact vc0)
  refine FunA.callW hP hT (c_impl_FormatWord d (up d a1) (by omega)) (by simp only [AW7, simprocAttr]) ?_
  rintro rs o ⟨rfl, rfl⟩
  (try simp only [AW7, simprocAttr, hX]); (repeat (with_reducible refine And.intro ?_ ?_); exact vc0)
  (repeat (with_reducible refine And.intro ?_ ?_); exact vc0); refine hK _ ?_; clear hK K; refine Run.nq ?_
  refine Run.nq ?_; refine Run.regionW hC (fun K hK => ?_); simp only [AW7, simprocAttr, hX]; (repeat (with_reducible refine And.intro ?_ ?_); exact vc0)
  simp only [hgy]
  (repeat (with_reducible refine And.intro ?_ ?_); exact vc0)
  (repeat (with_reducible refine And.intro ?_ ?_); exact vc0); refine hK _ ?_; clear hK K; refine Run.nq ?_
  have hstep : ∀ (zs : List (Nat × List Int)), (∀ j, j < ys2.length → zs.getD j (0, []) = ys2.getD j (0, [])) → (∀ z ∈ rw2 ys2, z ∈ rw2 zs) → (d.length < y.length → d ∈ rw2 zs) → (∀ j, j < zs.length → j ≤ k → j < ys2.length) → Done c zs k (i + 1) := by
    intro zs z1 z2 z3 z4 j hj a ha hja
    have hj2 := z4 j hj (by omega)
    rw [z1 j hj2]
    by_cases hai : j = k ∧ a = i
    · obtain ⟨rfl, rfl⟩ := hai
      rw [hgy, hgd]
      exact z3
    · intro hlt
      exact z2 _ (hD2 j hj2 a ha (by omega) hlt)
  refine Run.nq ?_; refine Run.condW (by simp only [AW7, simprocAttr, hX]; rfl) (by simp only [AW7, simprocAttr, hX]) ?_ ?_
  · intro h4
    have h4 : d.length < y.length ∧ mgetB l2 (.str (fmtW d)) = false := by
      by_cases k1 : d.length < y.length
      · rw [decide_eq_true (by omega : (d.length : Int) < y.length)] at h4
        have h4 : (!mgetB l2 (.str (fmtW d))) = true := h4
        exact ⟨k1, by simpa using h4⟩
      · rw [decide_eq_false (by omega : ¬ (d.length : Int) < y.length)] at h4; cases h4
    have hpd : Pre c x d := by
      have := hy.down hc hx h3 (by rw [hgd]; exact h4.1)
      rwa [hgd] at this
    refine Run.nq ?_; refine Run.regionW hC (fun K hK => ?_); simp only [AW7, simprocAttr, hX]; (repeat (with_reducible refine And.intro ?_ ?_); exact vc0); refine hK _ ?_; clear hK K; refine Run.nq ?_
    refine Run.nq ?_; refine Run.regionW hC (fun K hK => ?_); simp only [AW7, simprocAttr, hX]; (repeat (with_reducible refine And.intro ?_ ?_); exact vc0)
    intro q2 hq2
    (repeat (with_reducible refine And.intro ?_ ?_); exact vc0)
    (repeat (with_reducible refine And.intro ?_ ?_); exact vc0); refine hK _ ?_; clear hK K; refine Run.nq ?_
    have hS3 := hS2.add hn (x := d) a1 (q := q2) (hq2 (.arr .lrow ys2 0 true) (.head _) _ _ _ rfl) h4.2
    have hP3 : ∀ z ∈ rw2 (ys2 ++ [(q2, d)]), Pre c x z := fun z hz => by
      rw [rw2_app] at hz
      rcases List.mem_append.1 hz with hz | hz
      · exact hPr2 z hz
      · simp [rw2] at hz; rw [hz]; exact hpd
    have hD3 := hstep (ys2 ++ [(q2, d)]) (fun j hj => getD_app hj _) (fun z hz => by rw [rw2_app]; exact List.mem_append_left _ hz) (fun _ => by rw [rw2_app]; exact List.mem_append_right _ (by simp [rw2])) (fun j hj hjk => by omega)
    refine Run.reK hpin [0, 6, 7, 8, 29, 30] [0, 1] (by decide) (by simp) ?_; simp only [AR, AW7, simprocAttr]
    refine Run.nq ?_; refine Run.regionW hC (fun K hK => ?_); simp (disch := omega) only [wrap_id, AW7, simprocAttr, hX]; (repeat (with_reducible refine And.intro ?_ ?_); exact vc0); refine hK _ ?_; clear hK K; refine Run.nq ?_
    refine Run.le ?_ (ih ((ys2 ++ [(q2, d)], mput l2 (.str (fmtW d)) (.bool true), i + 1)) (⟨⟨by simp; omega, by simp; omega, h3⟩, hS3, hP3, by rw [rw2_app]; exact List.mem_append_left _ hxm2, hD3⟩) (by (try simp only [List.length_append, List.length_cons, List.length_nil]); omega))
    exact Le.sub (by rfl) (by simp only [AW7, simprocAttr]; try simp)
  intro h4
  have hD3 := hstep ys2 (fun _ _ => rfl) (fun _ hz => hz) (fun hlt => by
    rw [decide_eq_true (by omega : (d.length : Int) < y.length)] at h4
    have h4 : (!mgetB l2 (.str (fmtW d))) = false := h4
    exact (hS2.2.2.2 d a1).1 (by simpa using h4)) (fun j hj _ => hj)
  refine Run.reK hpin [0, 6, 7, 8, 29, 30] [0, 1] (by decide) (by simp) ?_; simp only [AR, AW7, simprocAttr]
  refine Run.nq ?_; refine Run.regionW hC (fun K hK => ?_); simp (disch := omega) only [wrap_id, AW7, simprocAttr, hX]; (repeat (with_reducible refine And.intro ?_ ?_); exact vc0); refine hK _ ?_; clear hK K; refine Run.nq ?_
  refine Run.le ?_ (ih ((ys2, l2, i + 1)) (⟨⟨hk2, by simp only []; omega, h3⟩, hS2, hPr2, hxm2, hD3⟩) (by (try simp only [List.length_append, List.length_cons, List.length_nil]); omega))
  exact Le.sub (by rfl) (by simp only [AW7, simprocAttr]; try simp)

/-- What both sides tell of the elements below an element. -/
noncomputable def preB (c : List (List Int)) (w : List Int) : Bool := wordB c w && fewB (Pre c (redL c w))
noncomputable def preX (c : List (List Int)) (w : List Int) : List (List Int) := if wordB c w then fewL (Pre c (redL c w)) else []
theorem preX_len (c : List (List Int)) (w : List Int) : (preX c w).length ≤ 200 := by
  unfold preX
  split
  · exact fewL_len _
  · simp
theorem word_nf {c : List (List Int)} {w : List Int} (h : wordB c w = true) : Nf c (redL c w) ∧ (redL c w).length ≤ 15 := by
  obtain ⟨hc, h2, h3⟩ := wordB_iff.1 h
  have := (red_spec hc h3 (by omega)).2.1
  exact ⟨nf_red hc h3 (by omega) (by omega), by omega⟩
theorem preX_pre {c : List (List Int)} {w z : List Int} (h : z ∈ preX c w) : wordB c w = true ∧ Pre c (redL c w) z := by
  unfold preX at h
  cases hw : wordB c w with
  | false => rw [hw] at h; simp at h
  | true => rw [hw, if_pos rfl] at h; exact ⟨rfl, fewL_mem h⟩
theorem preX_rows (c : List (List Int)) (w : List Int) : ∀ r ∈ preX c w, r.length ≤ 15 := by
  intro r hr
  obtain ⟨hw, _, _, v, _, _, h5⟩ := preX_pre hr
  have := (word_nf hw).2
  omega

theorem c_impl_PrefixesOfR (c : List (List Int)) (w : List Int) (hcl : c.length ≤ 1048576) :
    FunA B 13 [.sl false (.row false) c, .sl false .int w] (fun rs o => ∃ ys g nn rest, (rw2 ys = preX c w ∧ nn = true ∧ rest = [.bool (preB c w)]) ∧ (lb1 ys).Nodup ∧ rest.all flatAV = true ∧ rs = .own 0 g :: rest ∧ o = [.arr .lrow ys g nn]) := by
  refine FunA.walk B_ok (fn := Try.f13) (fun vs w => Try.call13 vs w) Try.func13 rfl (by rw [Try.ntmps13]; simp) (fun C hC hP hT hΓ hbt hfn hpin hfin => ?_); have hX := BX; rw [← hΓ, ← hbt.1, ← hbt.2] at hX; rw [Try.ntmps13]; simp only [AW7, simprocAttr, hX]
  refine Run.nq ?_; refine Run.regionW hC (fun K hK => ?_); simp only [AW7, simprocAttr, hX]; (repeat (with_reducible refine And.intro ?_ ?_); exact vc0); refine hK _ ?_; clear hK K; refine Run.nq ?_
  refine Run.nq ?_; refine Run.regionW hC (fun K hK => ?_); simp only [AW7, simprocAttr, hX]; (repeat (with_reducible refine And.intro ?_ ?_); exact vc0)
  refine FunA.callW hP hT (c_impl_IsWord c w) (by simp only [AW7, simprocAttr]) ?_
  rintro rs o ⟨rfl, rfl⟩
  (try simp only [AW7, simprocAttr, hX]); (repeat (with_reducible refine And.intro ?_ ?_); exact vc0)
  (repeat (with_reducible refine And.intro ?_ ?_); exact vc0); refine hK _ ?_; clear hK K; refine Run.nq ?_
  refine Run.nq ?_; refine Run.condW (by simp only [AW7, simprocAttr, hX]; rfl) (by simp only [AW7, simprocAttr, hX]) ?_ ?_
  · intro h
    have h : wordB c w = false := by simpa using h
    refine Run.nq ?_; refine Run.regionW hC (fun K hK => ?_); simp only [AW7, simprocAttr, hX]; (repeat (with_reducible refine And.intro ?_ ?_); exact vc0); refine hK _ ?_; clear hK K; refine Run.nq ?_
    refine Run.reK hpin [4, 5] [0] (by decide) (by simp) ?_; simp only [AR, AW7, simprocAttr]
    refine Run.retW [4, 5] (by decide) (by rw [hfn]; rfl) (by simp only [AW7, simprocAttr, hX]; rfl) (by simp only [AW7, simprocAttr, hX]) (hfin _ _ rfl rfl ?_)
    exact ⟨[], 0, true, [.bool false], ⟨by unfold preX; rw [h]; rfl, rfl, by unfold preB; rw [h]; rfl⟩, by simp [lb1], rfl, rfl, rfl⟩
  intro h
  have h : wordB c w = true := by simpa using h
  obtain ⟨hc, h2, h3⟩ := wordB_iff.1 h
  refine Run.nq ?_; refine Run.regionW hC (fun K hK => ?_); simp only [AW7, simprocAttr, hX]; (repeat (with_reducible refine And.intro ?_ ?_); exact vc0)
  refine FunA.callW hP hT (c_impl_prefixes c w hc h3 (by omega) (by have := (word_nf h).2; omega)) (by simp only [AW7, simprocAttr]) ?_
  rintro rs o ⟨ys, g, nn, rest, ⟨e1, rfl, rfl⟩, hnd, hfl, rfl, rfl⟩
  (try simp only [AW7, simprocAttr, hX]); (repeat (with_reducible refine And.intro ?_ ?_); exact vc0)
  (repeat (with_reducible refine And.intro ?_ ?_); exact vc0); refine hK _ ?_; clear hK K; refine Run.nq ?_
  refine Run.reK hpin [4, 5] [0] (by decide) (by simp) ?_; simp only [AR, AW7, simprocAttr]
  refine Run.retW [4, 5] (by decide) (by rw [hfn]; rfl) (by simp only [AW7, simprocAttr, hX]; rfl) (by simp only [AW7, simprocAttr, hX]) (hfin _ _ rfl rfl ?_)
  exact ⟨ys, 0, true, [.bool (preB c w)], ⟨by rw [e1]; unfold preX; rw [h]; rfl, rfl, rfl⟩, hnd, rfl, by unfold preB; rw [h]; rfl, rfl⟩
theorem c_impl_PrefixesOf (c : List (List Int)) (w : List Int) (hcl : c.length ≤ 1048576) :
    FunA B 13 [.sl false (.row false) c, .sl false .int w] (fun rs o => rs = [.own 0 0, .bool (preB c w)] ∧ ∃ hs, hs.length = (preX c w).length ∧ o = [.mat hs (preX c w) 0 true]) :=
  (FunA.mat (by rfl) (post := fun rows nn rest => rows = preX c w ∧ nn = true ∧ rest = [.bool (preB c w)]) (c_impl_PrefixesOfR c w hcl)).mono fun rs o ⟨hs, rows, nn, rest, ⟨h1, h2, h3⟩, h4, h5, h6⟩ => by subst h1 h2 h3; exact ⟨h5, hs, h4, h6⟩
end Go.Proofs.Ytdhfonblpbpmmaa

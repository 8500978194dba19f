/- All that lies below an element in the Bruhat order: the program's side. -/
import Derived.Test.YtdhfonblpbpmmaaBru
import Derived.Test.YtdhfonblpbpmmaaPref2
import Derived.Test.YtdhfonblpbpmmaaUnap
set_option linter.unusedVariables false
set_option linter.unusedSimpArgs false
namespace Go.Proofs.Ytdhfonblpbpmmaa
open Go Go.Aw Go.Cox

noncomputable def lowB (c : List (List Int)) (w : List Int) : Bool := wordB c w && fewB (Low c (redL c w))
noncomputable def lowX (c : List (List Int)) (w : List Int) : List (List Int) := if wordB c w then fewL (Low c (redL c w)) else []
theorem lowX_len (c : List (List Int)) (w : List Int) : (lowX c w).length ≤ 200 := by
  unfold lowX
  split
  · exact fewL_len _
  · simp
theorem lowX_low {c : List (List Int)} {w z : List Int} (h : z ∈ lowX c w) : wordB c w = true ∧ Low c (redL c w) z := by
  unfold lowX at h
  cases hw : wordB c w with
  | false => rw [hw] at h; simp at h
  | true => rw [hw, if_pos rfl] at h; exact ⟨rfl, fewL_mem h⟩
theorem lowX_rows (c : List (List Int)) (w : List Int) : ∀ r ∈ lowX c w, r.length ≤ 15 := by
  intro r hr
  obtain ⟨hw, hl⟩ := lowX_low hr
  obtain ⟨hc, _⟩ := wordB_iff.1 hw
  have := (word_nf hw).2
  have := hl.len hc (word_nf hw).1.1
  omega
theorem Low.take {c : List (List Int)} {x z : List Int} {k : Nat} (h : Low c (x.take k) z) : Low c x z := ⟨h.1, h.2.mono (List.take_sublist k x)⟩

set_option maxHeartbeats 4000000 in
theorem c_impl_LowerIntervalR (c : List (List Int)) (w : List Int) (hcl : c.length ≤ 1048576) :
    FunA B 25 [.sl false (.row false) c, .sl false .int w] (fun rs o => ∃ ys g nn rest, (rw2 ys = lowX c w ∧ nn = true ∧ rest = [.bool (lowB c w)]) ∧ (lb1 ys).Nodup ∧ rest.all flatAV = true ∧ rs = .own 0 g :: rest ∧ o = [.arr .lrow ys g nn]) := by
  refine FunA.walk B_ok (fn := Try.f25) (fun vs w => Try.call25 vs w) Try.func25 rfl (by rw [Try.ntmps25]; simp) (fun C hC hP hT hΓ hbt hfn hpin hfin => ?_); have hX := BX; rw [← hΓ, ← hbt.1, ← hbt.2] at hX; rw [Try.ntmps25]; simp only [AW7, simprocAttr, hX]
  refine Run.nq ?_; refine Run.regionW hC (fun K hK => ?_); simp only [AW7, simprocAttr, hX]; (repeat (with_reducible refine And.intro ?_ ?_); exact vc0); refine hK _ ?_; clear hK K; refine Run.nq ?_
  refine Run.nq ?_; refine Run.regionW hC (fun K hK => ?_); simp only [AW7, simprocAttr, hX]; (repeat (with_reducible refine And.intro ?_ ?_); exact vc0)
  refine FunA.callW hP hT (c_impl_IsWord c w) (by simp only [AW7, simprocAttr]) ?_
  rintro rs o ⟨rfl, rfl⟩
  (try simp only [AW7, simprocAttr, hX]); (repeat (with_reducible refine And.intro ?_ ?_); exact vc0)
  (repeat (with_reducible refine And.intro ?_ ?_); exact vc0); refine hK _ ?_; clear hK K; refine Run.nq ?_
  refine Run.nq ?_; refine Run.condW (by simp only [AW7, simprocAttr, hX]; rfl) (by simp only [AW7, simprocAttr, hX]) ?_ ?_
  · intro h
    have h : wordB c w = false := by simpa using h
    refine Run.nq ?_; refine Run.regionW hC (fun K hK => ?_); simp only [AW7, simprocAttr, hX]; (repeat (with_reducible refine And.intro ?_ ?_); exact vc0); refine hK _ ?_; clear hK K; refine Run.nq ?_
    refine Run.reK hpin [4, 5] [0] (by decide) (by simp) ?_; simp only [AR, AW7, simprocAttr]
    refine Run.retW [4, 5] (by decide) (by rw [hfn]; rfl) (by simp only [AW7, simprocAttr, hX]; rfl) (by simp only [AW7, simprocAttr, hX]) (hfin _ _ rfl rfl ?_)
    exact ⟨[], 0, true, [.bool false], ⟨by unfold lowX; rw [h]; rfl, rfl, by unfold lowB; rw [h]; rfl⟩, by simp [lb1], rfl, rfl, rfl⟩
  intro h
  have hwb : wordB c w = true := by simpa using h
  obtain ⟨hc, h2, h3⟩ := wordB_iff.1 hwb
  have hn := hc.2.1
  have up : ∀ z, letters c.length z → letters 4 z := fun z hz i hi => by have := hz i hi; omega
  obtain ⟨hx, hx15⟩ := word_nf hwb
  have hpX : lowX c w = fewL (Low c (redL c w)) := by unfold lowX; rw [hwb]; rfl
  have hpB : lowB c w = fewB (Low c (redL c w)) := by unfold lowB; rw [hwb]; rfl
  refine Run.nq ?_; refine Run.regionW hC (fun K hK => ?_); simp only [AW7, simprocAttr, hX]; (repeat (with_reducible refine And.intro ?_ ?_); exact vc0)
  intro q hq
  (repeat (with_reducible refine And.intro ?_ ?_); exact vc0)
  (repeat (with_reducible refine And.intro ?_ ?_); exact vc0); refine hK _ ?_; clear hK K; refine Run.nq ?_
  refine Run.nq ?_; refine Run.regionW hC (fun K hK => ?_); simp only [AW7, simprocAttr, hX]; (repeat (with_reducible refine And.intro ?_ ?_); exact vc0); refine hK _ ?_; clear hK K; refine Run.nq ?_
  refine Run.nq ?_; refine Run.regionW hC (fun K hK => ?_); simp only [AW7, simprocAttr, hX]; (repeat (with_reducible refine And.intro ?_ ?_); exact vc0)
  refine FunA.callW hP hT (c_impl_reduced c w hc h3 (by omega)) (by simp only [AW7, simprocAttr]) ?_
  rintro rs o ⟨rfl, rfl⟩
  (try simp only [AW7, simprocAttr, hX]); (repeat (with_reducible refine And.intro ?_ ?_); exact vc0)
  (repeat (with_reducible refine And.intro ?_ ?_); exact vc0); refine hK _ ?_; clear hK K; refine Run.nq ?_
  generalize hgx : redL c w = x at *
  have hfe : fmtW [] = [101] := rfl
  rw [← hfe]
  refine Run.letgoK 3 [0, 6, 7, 25, 26, 27] rfl ?_; simp only [AL, frV_cons, frV_nil, AW7, simprocAttr]
  refine Run.reK hpin [0, 6, 7, 25, 26, 27] [1, 2] (by decide) (by simp) ?_; simp only [AR, AW7, simprocAttr]
  refine Run.loopI (X := List (Nat × List Int) × List (MK × MV) × Nat) (fun s => ⟨70, [(0, true, .v (.sl false (.row false) (c))), (6, true, .v (.own 0 0)), (7, true, .v (.own 1 0)), (25, true, .v (.sl true .int (x))), (26, true, .v (.int .i64 (x.length))), (27, true, .v (.int .i64 (s.2.2)))], [.arr .lrow (s.1) 0 true, .mp ⟨false, false⟩ s.2.1 0]⟩) (fun s => (s.2.2 ≤ x.length ∧ s.1.length ≤ 200 ∧ 0 < s.1.length) ∧ Seen c.length s.1 s.2.1 ∧ ∀ z, z ∈ rw2 s.1 ↔ Low c (x.take s.2.2) z) (fun s => x.length - s.2.2) (([(q, [])], mput [] (.str (fmtW [])) (.bool true), 0)) (⟨⟨Nat.zero_le _, by simp, by simp⟩, Seen.start hn (letters_nil _) q, fun z => by rw [List.take_zero, Low.none hc]; simp [rw2]⟩) ?_ ?_
  · exact Le.sub (by first | rfl | simp) (by simp only [AW7, simprocAttr, hX]; try simp <;> try (first | rfl | exact ⟨rfl, rfl⟩ | exact ⟨rfl, rfl, rfl⟩))
  rintro ⟨ys, l, k⟩ ⟨⟨hk, hyl, hy0⟩, hS, hL⟩ ihO
  try simp only []
  simp only [] at hk hyl hy0 hS hL
  clear hq
  refine Run.nq ?_; refine Run.regionW hC (fun K hK => ?_); simp only [AW7, simprocAttr, hX]; (repeat (with_reducible refine And.intro ?_ ?_); exact vc0); refine hK _ ?_; clear hK K; refine Run.nq ?_
  refine Run.nq ?_; refine Run.condW (by simp only [AW7, simprocAttr, hX]; rfl) (by simp only [AW7, simprocAttr, hX]) ?_ ?_
  rotate_left
  · intro h4
    have hke : k = x.length := by rw [decide_eq_false_iff_not] at h4; omega
    rw [hke, List.take_length] at hL
    have hrl : (rw2 ys).length ≤ 200 := by simpa [rw2] using hyl
    obtain ⟨e1, e2⟩ := few_on hS.2.1 hL hrl
    have hlen : ∀ a, (a = [] ∨ a ∈ ys.map (·.2)) → a.length ≤ 1048576 := fun a ha => by
      rcases ha with rfl | ha
      · simp
      · have := ((hL a).1 ha).1.2.2; omega
    refine Run.exit rfl ?_; refine Run.nq ?_
    refine Run.nq ?_; refine Run.regionW hC (fun K hK => ?_); simp only [AW7, simprocAttr, hX]; (repeat (with_reducible refine And.intro ?_ ?_); exact vc0)
    refine ACall.sort hP hT srtL rfl cmpW_swo 0 0 rfl (by omega) (fun a b ha _ => c_impl_CompareWords a b (hlen a ha)) ?_
    intro ys' hp hs
    (try simp only [AW7, simprocAttr, hX]); (repeat (with_reducible refine And.intro ?_ ?_); exact vc0)
    (repeat (with_reducible refine And.intro ?_ ?_); exact vc0); refine hK _ ?_; clear hK K; refine Run.nq ?_
    refine Run.nq ?_; refine Run.regionW hC (fun K hK => ?_); simp only [AW7, simprocAttr, hX]; (repeat (with_reducible refine And.intro ?_ ?_); exact vc0); refine hK _ ?_; clear hK K; refine Run.nq ?_
    refine Run.reK hpin [4, 5] [0] (by decide) (by simp) ?_; simp only [AR, AW7, simprocAttr]
    refine Run.retW [4, 5] (by decide) (by rw [hfn]; rfl) (by simp only [AW7, simprocAttr, hX]; rfl) (by simp only [AW7, simprocAttr, hX]) (hfin _ _ rfl rfl ?_)
    refine ⟨ys', 0, true, [.bool true], ⟨?_, rfl, by rw [hpB, e1]⟩, ?_, rfl, rfl, rfl⟩
    · rw [hpX, e2]; exact sorted_srt hS.2.1 (hp.map _) (List.pairwise_map.2 hs)
    · exact (hp.map _).nodup_iff.2 hS.1
  intro h4
  have h4 : k < x.length := by rw [decide_eq_true_eq] at h4; omega
  have hxi := hx.1 _ (getD_mem h4)
  have htk := take_snoc 0 x k h4
  refine Run.nq ?_; refine Run.regionW hC (fun K hK => ?_); simp only [AW7, simprocAttr, hX]; (repeat (with_reducible refine And.intro ?_ ?_); exact vc0); refine hK _ ?_; clear hK K; refine Run.nq ?_
  generalize hgi : x.getD k 0 = i at *
  refine Run.toap 0 rfl hy0 (fun qq hqq => ?_)
  simp only [AW7, simprocAttr]
  refine Run.nq ?_; refine Run.regionW hC (fun K hK => ?_); simp only [AW7, simprocAttr, hX]; (repeat (with_reducible refine And.intro ?_ ?_); exact vc0); refine hK _ ?_; clear hK K; refine Run.nq ?_
  refine Run.reK hpin [0, 6, 7, 25, 26, 27, 9, 36, 37, 38] [0, 1] (by decide) (by simp) ?_; simp only [AR, AW7, simprocAttr]
  have hlt : letters c.length (x.take k ++ [i]) := letters_append.2 ⟨fun a ha => hx.1 a (List.mem_of_mem_take ha), letters_cons.2 ⟨hxi, letters_nil _⟩⟩
  refine Run.loopI (X := List (Nat × List Int) × List (MK × MV) × Nat × Bool) (fun s => ⟨70, [(0, true, .v (.sl false (.row false) (c))), (6, true, .v (.own 0 0)), (7, true, .v (.own 1 0)), (25, true, .v (.sl true .int (x))), (26, true, .v (.int .i64 (x.length))), (27, true, .v (.int .i64 (k))), (9, true, .v (.int .i64 (i))), (36, true, .v (.hdr (some qq) ys.length)), (37, true, .v (.int .i64 (ys.length))), (38, true, .v (.int .i64 (s.2.2.1)))], [.ap qq s.1 s.2.2.2 0 true, .mp ⟨false, false⟩ s.2.1 0]⟩) (fun s => (s.2.2.1 ≤ ys.length ∧ ys.length ≤ s.1.length ∧ s.1.length ≤ ys.length + s.2.2.1) ∧ (∀ j, j < ys.length → s.1.getD j (0, []) = ys.getD j (0, [])) ∧ Seen c.length s.1 s.2.1 ∧ (∀ z ∈ rw2 s.1, Low c (x.take k ++ [i]) z) ∧ ∀ j, j < s.2.2.1 → redL c ((ys.getD j (0, [])).2 ++ [i]) ∈ rw2 s.1) (fun s => ys.length - s.2.2.1) ((ys, l, 0, true)) (⟨⟨Nat.zero_le _, Nat.le_refl _, by simp⟩, fun j _ => rfl, hS, fun z hz => ((hL z).1 hz).more, fun j hj => absurd hj (Nat.not_lt_zero _)⟩) ?_ ?_
  · exact Le.sub (by first | rfl | simp) (by simp only [AW7, simprocAttr, hX]; try simp <;> try (first | rfl | exact ⟨rfl, rfl⟩ | exact ⟨rfl, rfl, rfl⟩))
  rintro ⟨ys2, l2, j, b⟩ ⟨⟨hj, hj2, hj3⟩, hpre, hS2, hL2, hM⟩ ih
  try simp only []
  simp only [] at hj hj2 hj3 hpre hS2 hL2 hM
  refine Run.nq ?_; refine Run.regionW hC (fun K hK => ?_); simp only [AW7, simprocAttr, hX]; (repeat (with_reducible refine And.intro ?_ ?_); exact vc0); refine hK _ ?_; clear hK K; refine Run.nq ?_
  refine Run.nq ?_; refine Run.condW (by simp only [AW7, simprocAttr, hX]; rfl) (by simp only [AW7, simprocAttr, hX]) ?_ ?_
  rotate_left
  · intro h5
    have hje : j = ys.length := by rw [decide_eq_false_iff_not] at h5; omega
    refine Run.exit rfl ?_; refine Run.nq ?_
    refine Run.nq ?_; refine Run.regionW hC (fun K hK => ?_); simp only [AW7, simprocAttr, hX]; (repeat (with_reducible refine And.intro ?_ ?_); exact vc0); refine hK _ ?_; clear hK K; refine Run.nq ?_
    refine Run.unap 0 rfl ?_
    simp only [AW7, simprocAttr]
    refine Run.nq ?_; refine Run.condW (by simp only [AW7, simprocAttr, hX]; rfl) (by simp only [AW7, simprocAttr, hX]) ?_ ?_
    · intro h6
      have h6 : 200 < (rw2 ys2).length := by rw [decide_eq_true_eq] at h6; simp [rw2]; omega
      obtain ⟨e1, e2⟩ := few_off (R := Low c x) hS2.2.1 (fun z hz => by
        have := hL2 z hz
        rw [htk] at this
        exact this.take) h6
      refine Run.nq ?_; refine Run.regionW hC (fun K hK => ?_); simp only [AW7, simprocAttr, hX]; (repeat (with_reducible refine And.intro ?_ ?_); exact vc0); refine hK _ ?_; clear hK K; refine Run.nq ?_
      refine Run.reK hpin [4, 5] [2] (by decide) (by simp) ?_; simp only [AR, AW7, simprocAttr]
      refine Run.retW [4, 5] (by decide) (by rw [hfn]; rfl) (by simp only [AW7, simprocAttr, hX]; rfl) (by simp only [AW7, simprocAttr, hX]) (hfin _ _ rfl rfl ?_)
      exact ⟨[], 0, true, [.bool false], ⟨by rw [hpX, e2]; rfl, rfl, by rw [hpB, e1]⟩, by simp [lb1], rfl, rfl, rfl⟩
    intro h6
    have h6 : ys2.length ≤ 200 := by rw [decide_eq_false_iff_not] at h6; omega
    have hL3 : ∀ z, z ∈ rw2 ys2 ↔ Low c (x.take (k + 1)) z := fun z => by
      rw [← htk]
      refine ⟨hL2 z, fun hz => ?_⟩
      have old : ∀ y, y ∈ rw2 ys → y ∈ rw2 ys2 := fun y hy => by
        obtain ⟨m, hm, rfl⟩ := mem_rw2_iff.1 hy
        rw [← hpre m hm]
        exact mem_rw2 (by omega)
      rcases hz.last hc hlt (by simp; omega) with h7 | ⟨y, hy, rfl⟩
      · exact old z ((hL z).2 h7)
      · obtain ⟨m, hm, rfl⟩ := mem_rw2_iff.1 ((hL y).2 hy)
        exact hM m (by omega)
    refine Run.reK hpin [0, 6, 7, 25, 26, 27] [0, 1] (by decide) (by simp) ?_; simp only [AR, AW7, simprocAttr]
    refine Run.nq ?_; refine Run.regionW hC (fun K hK => ?_); simp (disch := omega) only [wrap_id, AW7, simprocAttr, hX]; (repeat (with_reducible refine And.intro ?_ ?_); exact vc0); refine hK _ ?_; clear hK K; refine Run.nq ?_
    refine Run.le ?_ (ihO ((ys2, l2, k + 1)) (⟨⟨h4, h6, by simp only []; omega⟩, hS2, hL3⟩) (by (try simp only [List.length_append, List.length_cons, List.length_nil]); omega))
    exact Le.sub (by rfl) (by simp only [AW7, simprocAttr]; try simp)
  intro h5
  have h5 : j < ys.length := by rw [decide_eq_true_eq] at h5; omega
  have hyz := (hL _).1 (mem_rw2 h5)
  have hpj := hpre j h5
  have hyzl := hyz.len hc (fun a ha => hx.1 a (List.mem_of_mem_take ha))
  rw [List.length_take] at hyzl
  have hstep := hyz.step hc hlt (by omega)
  generalize hgy : (ys.getD j (0, [])).2 = y at *
  have hgy2 : (ys2.getD j (0, [])).2 = y := by rw [hpj]; exact hgy
  refine Run.nq ?_; refine Run.regionW hC (fun K hK => ?_); simp only [AW7, simprocAttr, hX]; (repeat (with_reducible refine And.intro ?_ ?_); exact vc0); refine hK _ ?_; clear hK K; refine Run.nq ?_
  simp only [Int.toNat_natCast, hgy2]
  have hlet : letters c.length (y ++ [i]) := letters_append.2 ⟨hyz.1.1, letters_cons.2 ⟨hxi, letters_nil _⟩⟩
  obtain ⟨a1, a2, a3, a4, a5⟩ := red_spec hc hlet (by simp; omega)
  refine Run.nq ?_; refine Run.regionW hC (fun K hK => ?_); simp only [AW7, simprocAttr, hX]; (repeat (with_reducible refine And.intro ?_ ?_); exact vc0)
  refine FunA.callW hP hT (c_slices_Clone y (by omega)) (by simp only [AW7, simprocAttr]) ?_
  rintro rs o ⟨nn2, rfl, rfl⟩
  (try simp only [AW7, simprocAttr, hX]); (repeat (with_reducible refine And.intro ?_ ?_); exact vc0)
  refine FunA.callW hP hT (c_impl_reduced c (y ++ [i]) hc hlet (by simp; omega)) (by simp only [AW7, simprocAttr]) ?_
  rintro rs o ⟨rfl, rfl⟩
  (try simp only [AW7, simprocAttr, hX]); (repeat (with_reducible refine And.intro ?_ ?_); exact vc0)
  (repeat (with_reducible refine And.intro ?_ ?_); exact vc0); refine hK _ ?_; clear hK K; refine Run.nq ?_
  generalize hgd : redL c (y ++ [i]) = d at *
  have hdl : d.length ≤ 31 := by simp at a2; omega
  refine Run.nq ?_; refine Run.regionW hC (fun K hK => ?_); simp only [AW7, simprocAttr, hX]; (repeat (with_reducible refine And.intro ?_ ?_); exact vc0)
  refine FunA.callW hP hT (c_impl_FormatWord d (up d a1) (by omega)) (by simp only [AW7, simprocAttr]) ?_
  rintro rs o ⟨rfl, rfl⟩
  (try simp only [AW7, simprocAttr, hX]); (repeat (with_reducible refine And.intro ?_ ?_); exact vc0)
  (repeat (with_reducible refine And.intro ?_ ?_); exact vc0); refine hK _ ?_; clear hK K; refine Run.nq ?_
  refine Run.nq ?_; refine Run.regionW hC (fun K hK => ?_); simp only [AW7, simprocAttr, hX]; (repeat (with_reducible refine And.intro ?_ ?_); exact vc0); refine hK _ ?_; clear hK K; refine Run.nq ?_
  have hM3 : ∀ (L : List (List Int)), (∀ t ∈ rw2 ys2, t ∈ L) → d ∈ L → ∀ m, m < j + 1 → redL c ((ys.getD m (0, [])).2 ++ [i]) ∈ L := fun L q1 q2 m hm => by
    by_cases e : m = j
    · rw [e, hgy, hgd]; exact q2
    · exact q1 _ (hM m (by omega))
  refine Run.nq ?_; refine Run.condW (by simp only [AW7, simprocAttr, hX]; rfl) (by simp only [AW7, simprocAttr, hX]) ?_ ?_
  · intro h6
    have h6 : mgetB l2 (.str (fmtW d)) = false := by simpa using h6
    refine Run.nq ?_; refine Run.regionW hC (fun K hK => ?_); simp only [AW7, simprocAttr, hX]; (repeat (with_reducible refine And.intro ?_ ?_); exact vc0); refine hK _ ?_; clear hK K; refine Run.nq ?_
    refine Run.nq ?_; refine Run.regionW hC (fun K hK => ?_); simp only [AW7, simprocAttr, hX]; (repeat (with_reducible refine And.intro ?_ ?_); exact vc0)
    intro q2 hq2
    (repeat (with_reducible refine And.intro ?_ ?_); exact vc0)
    (repeat (with_reducible refine And.intro ?_ ?_); exact vc0); refine hK _ ?_; clear hK K; refine Run.nq ?_
    have hS3 := hS2.add hn (x := d) a1 (q := q2) (hq2 (.ap qq ys2 b 0 true) (.head _) _ _ _ rfl) h6
    have hL4 : ∀ z ∈ rw2 (ys2 ++ [(q2, d)]), Low c (x.take k ++ [i]) z := fun z hz => by
      rw [rw2_app] at hz
      rcases List.mem_append.1 hz with hz | hz
      · exact hL2 z hz
      · simp [rw2] at hz; rw [hz]; exact hstep
    have hpre3 : ∀ m, m < ys.length → (ys2 ++ [(q2, d)]).getD m (0, []) = ys.getD m (0, []) := fun m hm => by
      rw [getD_app (by omega)]; exact hpre m hm
    refine Run.reK hpin [0, 6, 7, 25, 26, 27, 9, 36, 37, 38] [0, 1] (by decide) (by simp) ?_; simp only [AR, AW7, simprocAttr]
    refine Run.nq ?_; refine Run.regionW hC (fun K hK => ?_); simp (disch := omega) only [wrap_id, AW7, simprocAttr, hX]; (repeat (with_reducible refine And.intro ?_ ?_); exact vc0); refine hK _ ?_; clear hK K; refine Run.nq ?_
    refine Run.le ?_ (ih ((ys2 ++ [(q2, d)], mput l2 (.str (fmtW d)) (.bool true), j + 1, false)) (⟨⟨h5, by simp; omega, by simp; omega⟩, hpre3, hS3, hL4, hM3 _ (fun t ht => by rw [rw2_app]; exact List.mem_append_left _ ht) (by rw [rw2_app]; exact List.mem_append_right _ (by simp [rw2]))⟩) (by (try simp only [List.length_append, List.length_cons, List.length_nil]); omega))
    exact Le.sub (by rfl) (by simp only [AW7, simprocAttr]; try simp)
  intro h6
  have h6 : mgetB l2 (.str (fmtW d)) = true := by simpa using h6
  have hin := (hS2.2.2.2 d a1).1 h6
  refine Run.reK hpin [0, 6, 7, 25, 26, 27, 9, 36, 37, 38] [0, 1] (by decide) (by simp) ?_; simp only [AR, AW7, simprocAttr]
  refine Run.nq ?_; refine Run.regionW hC (fun K hK => ?_); simp (disch := omega) only [wrap_id, AW7, simprocAttr, hX]; (repeat (with_reducible refine And.intro ?_ ?_); exact vc0); refine hK _ ?_; clear hK K; refine Run.nq ?_
  refine Run.le ?_ (ih ((ys2, l2, j + 1, b)) (⟨⟨h5, hj2, by simp only []; omega⟩, hpre, hS2, hL2, hM3 _ (fun t ht => ht) hin⟩) (by (try simp only [List.length_append, List.length_cons, List.length_nil]); omega))
  exact Le.sub (by rfl) (by simp only [AW7, simprocAttr]; try simp)
end Go.Proofs.Ytdhfonblpbpmmaa

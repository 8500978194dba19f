/- The elements between two in the Bruhat order. -/
import Derived.Test.YtdhfonblpbpmmaaLow2
import Derived.Test.YtdhfonblpbpmmaaBruhat
set_option linter.unusedVariables false
set_option linter.unusedSimpArgs false
namespace Go.Proofs.Ytdhfonblpbpmmaa
open Go Go.Aw Go.Cox

noncomputable def itvB (c : List (List Int)) (u v : List Int) : Bool := lowB c v && wordB c u
noncomputable def itvX (c : List (List Int)) (u v : List Int) : List (List Int) := if itvB c u v then (lowX c v).filter (fun x => brB c u x) else []
theorem itvX_mem {c : List (List Int)} {u v z : List Int} (h : z ∈ itvX c u v) : z ∈ lowX c v := by
  unfold itvX at h
  split at h
  · exact (List.mem_filter.1 h).1
  · simp at h
theorem itvX_len (c : List (List Int)) (u v : List Int) : (itvX c u v).length ≤ 200 := by
  unfold itvX
  split
  · have := List.length_filter_le (fun x => brB c u x) (lowX c v)
    have := lowX_len c v
    omega
  · simp
theorem itvX_rows (c : List (List Int)) (u v : List Int) : ∀ r ∈ itvX c u v, r.length ≤ 15 := fun r hr => lowX_rows c v r (itvX_mem hr)
theorem low_word {c : List (List Int)} {w z : List Int} (h : z ∈ lowX c w) : WordP c z ∧ Nf c z := by
  obtain ⟨hw, hp⟩ := lowX_low h
  exact ⟨⟨(wordB_iff.1 hw).1, lowX_rows c w z h, hp.1.1⟩, hp.1⟩
theorem filter_snoc {p : List Int → Bool} (L : List (List Int)) (k : Nat) (h : k < L.length) : (L.take (k + 1)).filter p = if p (L.getD k []) then (L.take k).filter p ++ [L.getD k []] else (L.take k).filter p := by
  rw [← take_snoc [] L k h, List.filter_append]
  generalize L.getD k [] = z
  split <;> rename_i hp <;> simp [hp]

theorem c_impl_IntervalOfR (c : List (List Int)) (u v : List Int) (hcl : c.length ≤ 1048576) :
    FunA B 27 [.sl false (.row false) c, .sl false .int u, .sl false .int v] (fun rs o => ∃ ys g nn rest, (rw2 ys = itvX c u v ∧ nn = true ∧ rest = [.bool (itvB c u v)]) ∧ (lb1 ys).Nodup ∧ rest.all flatAV = true ∧ rs = .own 0 g :: rest ∧ o = [.arr .lrow ys g nn]) := by
  refine FunA.walk B_ok (fn := Try.f27) (fun vs w => Try.call27 vs w) Try.func27 rfl (by rw [Try.ntmps27]; simp) (fun C hC hP hT hΓ hbt hfn hpin hfin => ?_); have hX := BX; rw [← hΓ, ← hbt.1, ← hbt.2] at hX; rw [Try.ntmps27]; simp only [AW7, simprocAttr, hX]
  refine Run.nq ?_; refine Run.regionW hC (fun K hK => ?_); simp only [AW7, simprocAttr, hX]; (repeat (with_reducible refine And.intro ?_ ?_); exact vc0); refine hK _ ?_; clear hK K; refine Run.nq ?_
  refine Run.nq ?_; refine Run.regionW hC (fun K hK => ?_); simp only [AW7, simprocAttr, hX]; (repeat (with_reducible refine And.intro ?_ ?_); exact vc0)
  refine FunA.callW hP hT (c_impl_LowerIntervalR c v hcl) (by simp only [AW7, simprocAttr]) ?_
  rintro rs o ⟨ys, g, nn, rest, ⟨hys, rfl, rfl⟩, hnd, _, rfl, rfl⟩
  (try simp only [AW7, simprocAttr, hX]); (repeat (with_reducible refine And.intro ?_ ?_); exact vc0)
  (repeat (with_reducible refine And.intro ?_ ?_); exact vc0); refine hK _ ?_; clear hK K; refine Run.nq ?_
  refine Run.nq ?_; refine Run.regionW hC (fun K hK => ?_); simp only [AW7, simprocAttr, hX]; (repeat (with_reducible refine And.intro ?_ ?_); exact vc0)
  refine .inl (FunA.callG hP hT (c_impl_IsWord c u) (fun _ => rfl) (fun _ => by simp only [AW7, simprocAttr]) ?_)
  (try simp only [AW7, simprocAttr, hX]); (repeat (with_reducible refine And.intro ?_ ?_); exact vc0)
  (repeat (with_reducible refine And.intro ?_ ?_); exact vc0); refine hK _ ?_; clear hK K; refine Run.nq ?_
  refine Run.nq ?_; refine Run.condW (by simp only [AW7, simprocAttr, hX]; rfl) (by simp only [AW7, simprocAttr, hX]) ?_ ?_
  · intro h
    have e1 : itvB c u v = false := by
      revert h
      cases hp : lowB c v <;> cases hw : wordB c u <;> simp [itvB, hp, hw]
    refine Run.nq ?_; refine Run.regionW hC (fun K hK => ?_); simp only [AW7, simprocAttr, hX]; (repeat (with_reducible refine And.intro ?_ ?_); exact vc0); refine hK _ ?_; clear hK K; refine Run.nq ?_
    refine Run.reK hpin [6, 7] [1] (by decide) (by simp) ?_; simp only [AR, AW7, simprocAttr]
    refine Run.retW [6, 7] (by decide) (by rw [hfn]; rfl) (by simp only [AW7, simprocAttr, hX]; rfl) (by simp only [AW7, simprocAttr, hX]) (hfin _ _ rfl rfl ?_)
    exact ⟨[], 0, true, [.bool false], ⟨by unfold itvX; rw [e1]; rfl, rfl, by rw [e1]⟩, by simp [lb1], rfl, rfl, rfl⟩
  intro h
  have hl : lowB c v = true := by revert h; cases hp : lowB c v <;> simp
  have hu : wordB c u = true := by revert h; cases hw : wordB c u <;> simp [hl]
  have hI : itvB c u v = true := by simp [itvB, hl, hu]
  have hlen := lowX_len c v
  rw [← hys, rwl] at hlen
  refine Run.nq ?_; refine Run.regionW hC (fun K hK => ?_); simp only [AW7, simprocAttr, hX]; (repeat (with_reducible refine And.intro ?_ ?_); exact vc0); refine hK _ ?_; clear hK K; refine Run.nq ?_
  refine Run.nq ?_; refine Run.regionW hC (fun K hK => ?_); simp only [AW7, simprocAttr, hX]; (repeat (with_reducible refine And.intro ?_ ?_); exact vc0); refine hK _ ?_; clear hK K; refine Run.nq ?_
  refine Run.reK hpin [0, 1, 8, 10, 29, 30, 31] [0, 1] (by decide) (by simp) ?_; simp only [AR, AW7, simprocAttr]
  refine Run.loopI (X := List (Nat × List Int) × Nat) (fun s => ⟨45, [(0, true, .v (.sl false (.row false) (c))), (1, true, .v (.sl false .int (u))), (8, true, .v (.own 0 0)), (10, true, .v (.own 1 0)), (29, true, .v (.own 0 0)), (30, true, .v (.int .i64 (ys.length))), (31, true, .v (.int .i64 (s.2)))], [.arr .lrow (ys) 0 true, .arr .lrow (s.1) 0 true]⟩) (fun s => s.2 ≤ ys.length ∧ (s.1.length ≤ s.2) ∧ (lb1 s.1).Sublist ((lb1 ys).take s.2) ∧ rw2 s.1 = ((rw2 ys).take s.2).filter (fun x => brB c u x)) (fun s => ys.length - s.2) (([], 0)) (⟨Nat.zero_le _, by simp, by simp [lb1], by simp [rw2]⟩) ?_ ?_
  · exact Le.sub (by first | rfl | simp) (by simp only [AW7, simprocAttr, hX]; try simp <;> try (first | rfl | exact ⟨rfl, rfl⟩ | exact ⟨rfl, rfl, rfl⟩))
  rintro ⟨zs, k⟩ ⟨hk, hzl, hz1, hz2⟩ ih
  try simp only []
  simp only [] at hk hzl hz1 hz2
  refine Run.nq ?_; refine Run.regionW hC (fun K hK => ?_); simp only [AW7, simprocAttr, hX]; (repeat (with_reducible refine And.intro ?_ ?_); exact vc0); refine hK _ ?_; clear hK K; refine Run.nq ?_
  refine Run.nq ?_; refine Run.condW (by simp only [AW7, simprocAttr, hX]; rfl) (by simp only [AW7, simprocAttr, hX]) ?_ ?_
  rotate_left
  · intro h2
    have h2 : k = ys.length := by rw [decide_eq_false_iff_not] at h2; omega
    refine Run.exit rfl ?_; refine Run.nq ?_
    refine Run.nq ?_; refine Run.regionW hC (fun K hK => ?_); simp only [AW7, simprocAttr, hX]; (repeat (with_reducible refine And.intro ?_ ?_); exact vc0); refine hK _ ?_; clear hK K; refine Run.nq ?_
    refine Run.reK hpin [6, 7] [1] (by decide) (by simp) ?_; simp only [AR, AW7, simprocAttr]
    refine Run.retW [6, 7] (by decide) (by rw [hfn]; rfl) (by simp only [AW7, simprocAttr, hX]; rfl) (by simp only [AW7, simprocAttr, hX]) (hfin _ _ rfl rfl ?_)
    refine ⟨zs, 0, true, [.bool true], ⟨?_, rfl, by rw [hI]⟩, ?_, rfl, rfl, rfl⟩
    · rw [hz2, h2, show (rw2 ys).take ys.length = rw2 ys from List.take_of_length_le (by rw [rwl]; exact Nat.le_refl _), hys]
      unfold itvX
      rw [hI, if_pos rfl]
    · exact (hz1.trans (List.take_sublist _ _)).nodup hnd
  intro h2
  have h2 : k < ys.length := by rw [decide_eq_true_eq] at h2; omega
  have hin : (rw2 ys).getD k [] ∈ lowX c v := by rw [← hys, ← rwg]; exact mem_rw2 h2
  obtain ⟨wz, nz⟩ := low_word hin
  have hgz := rwg ys k
  have hfs := filter_snoc (p := fun x => brB c u x) (rw2 ys) k (by rw [rwl]; exact h2)
  have hls : (lb1 ys).take (k + 1) = (lb1 ys).take k ++ [(ys.getD k (0, [])).1] := by
    have hk2 : k < (lb1 ys).length := by simp [lb1]; exact h2
    rw [List.take_succ_eq_append_getElem hk2, getD_eq h2]
    simp [lb1]
  rw [← hgz] at hfs wz
  generalize hgx : (ys.getD k (0, [])).2 = z at *
  generalize hgq : (ys.getD k (0, [])).1 = q at *
  refine Run.nq ?_; refine Run.regionW hC (fun K hK => ?_); simp only [AW7, simprocAttr, hX]; (repeat (with_reducible refine And.intro ?_ ?_); exact vc0); refine hK _ ?_; clear hK K; refine Run.nq ?_
  simp only [Int.toNat_natCast, hgx, hgq]
  refine Run.nq ?_; refine Run.regionW hC (fun K hK => ?_); simp only [AW7, simprocAttr, hX]; (repeat (with_reducible refine And.intro ?_ ?_); exact vc0)
  refine FunA.callW hP hT (c_impl_below c u z (wordB_iff.1 hu) wz) (by simp only [AW7, simprocAttr]) ?_
  rintro rs o ⟨rfl, rfl⟩
  (try simp only [AW7, simprocAttr, hX]); (repeat (with_reducible refine And.intro ?_ ?_); exact vc0)
  (repeat (with_reducible refine And.intro ?_ ?_); exact vc0); refine hK _ ?_; clear hK K; refine Run.nq ?_
  have hbr : brB c u z = belB c (imageL c u) (redL c z) := by simp [brB, hu, wordB_iff.2 wz]
  refine Run.nq ?_; refine Run.condW (by simp only [AW7, simprocAttr, hX]; rfl) (by simp only [AW7, simprocAttr, hX]) ?_ ?_
  · intro h3
    have h3 : brB c u z = true := by rw [hbr]; exact h3
    refine Run.nq ?_; refine Run.regionW hC (fun K hK => ?_); simp only [AW7, simprocAttr, hX]; (repeat (with_reducible refine And.intro ?_ ?_); exact vc0); refine hK _ ?_; clear hK K; refine Run.nq ?_
    rw [if_pos h3] at hfs
    refine Run.reK hpin [0, 1, 8, 10, 29, 30, 31] [0, 1] (by decide) (by simp) ?_; simp only [AR, AW7, simprocAttr]
    refine Run.nq ?_; refine Run.regionW hC (fun K hK => ?_); simp (disch := omega) only [wrap_id, AW7, simprocAttr, hX]; (repeat (with_reducible refine And.intro ?_ ?_); exact vc0); refine hK _ ?_; clear hK K; refine Run.nq ?_
    refine Run.le ?_ (ih ((zs ++ [(q, z)], k + 1)) (⟨h2, by simp; omega, by rw [lb1_app, hls]; exact hz1.append (List.Sublist.refl _), by rw [rw2_app, hfs, hz2]; rfl⟩) (by (try simp only [List.length_append, List.length_cons, List.length_nil]); omega))
    exact Le.sub (by rfl) (by simp only [AW7, simprocAttr]; try simp)
  intro h3
  have h3 : ¬ brB c u z = true := by rw [hbr]; have h3 : belB c (imageL c u) (redL c z) = false := h3; rw [h3]; simp
  rw [if_neg h3] at hfs
  refine Run.reK hpin [0, 1, 8, 10, 29, 30, 31] [0, 1] (by decide) (by simp) ?_; simp only [AR, AW7, simprocAttr]
  refine Run.nq ?_; refine Run.regionW hC (fun K hK => ?_); simp (disch := omega) only [wrap_id, AW7, simprocAttr, hX]; (repeat (with_reducible refine And.intro ?_ ?_); exact vc0); refine hK _ ?_; clear hK K; refine Run.nq ?_
  refine Run.le ?_ (ih ((zs, k + 1)) (⟨h2, by simp only []; omega, by rw [hls]; exact hz1.trans (List.sublist_append_left _ _), by rw [hfs, hz2]⟩) (by (try simp only [List.length_append, List.length_cons, List.length_nil]); omega))
  exact Le.sub (by rfl) (by simp only [AW7, simprocAttr]; try simp)

theorem c_spec_IntervalOfR (c : List (List Int)) (u v : List Int) (hcl : c.length ≤ 1048576) :
    FunA B 26 [.sl false (.row false) c, .sl false .int u, .sl false .int v] (fun rs o => ∃ ys g nn rest, (rw2 ys = itvX c u v ∧ nn = true ∧ rest = [.bool (itvB c u v)]) ∧ (lb1 ys).Nodup ∧ rest.all flatAV = true ∧ rs = .own 0 g :: rest ∧ o = [.arr .lrow ys g nn]) := by
  refine FunA.walk B_ok (fn := Try.f26) (fun vs w => Try.call26 vs w) Try.func26 rfl (by rw [Try.ntmps26]; simp) (fun C hC hP hT hΓ hbt hfn hpin hfin => ?_); have hX := BX; rw [← hΓ, ← hbt.1, ← hbt.2] at hX; rw [Try.ntmps26]; simp only [AW7, simprocAttr, hX]
  refine Run.nq ?_; refine Run.regionW hC (fun K hK => ?_); simp only [AW7, simprocAttr, hX]; (repeat (with_reducible refine And.intro ?_ ?_); exact vc0); refine hK _ ?_; clear hK K; refine Run.nq ?_
  refine Run.nq ?_; refine Run.regionW hC (fun K hK => ?_); simp only [AW7, simprocAttr, hX]; (repeat (with_reducible refine And.intro ?_ ?_); exact vc0); refine hK _ ?_; clear hK K; refine Run.nq ?_
  refine Run.nq ?_; refine Run.regionW hC (fun K hK => ?_); simp only [AW7, simprocAttr, hX]; (repeat (with_reducible refine And.intro ?_ ?_); exact vc0)
  refine FunA.callW hP hT (c_spec_LowerIntervalR c v hcl) (by simp only [AW7, simprocAttr]) ?_
  rintro rs o ⟨ys, g, nn, rest, ⟨hys, rfl, rfl⟩, hnd, _, rfl, rfl⟩
  (try simp only [AW7, simprocAttr, hX]); (repeat (with_reducible refine And.intro ?_ ?_); exact vc0)
  (repeat (with_reducible refine And.intro ?_ ?_); exact vc0); refine hK _ ?_; clear hK K; refine Run.nq ?_
  refine Run.nq ?_; refine Run.regionW hC (fun K hK => ?_); simp only [AW7, simprocAttr, hX]; (repeat (with_reducible refine And.intro ?_ ?_); exact vc0)
  refine .inl (FunA.callG hP hT (c_spec_IsWord c u hcl) (fun _ => rfl) (fun _ => by simp only [AW7, simprocAttr]) ?_)
  (try simp only [AW7, simprocAttr, hX]); (repeat (with_reducible refine And.intro ?_ ?_); exact vc0)
  (repeat (with_reducible refine And.intro ?_ ?_); exact vc0); refine hK _ ?_; clear hK K; refine Run.nq ?_
  refine Run.nq ?_; refine Run.condW (by simp only [AW7, simprocAttr, hX]; rfl) (by simp only [AW7, simprocAttr, hX]) ?_ ?_
  · intro h
    have e1 : itvB c u v = false := by
      revert h
      cases hp : lowB c v <;> cases hw : wordB c u <;> simp [itvB, hp, hw]
    refine Run.nq ?_; refine Run.regionW hC (fun K hK => ?_); simp only [AW7, simprocAttr, hX]; (repeat (with_reducible refine And.intro ?_ ?_); exact vc0); refine hK _ ?_; clear hK K; refine Run.nq ?_
    refine Run.reK hpin [6, 7] [0] (by decide) (by simp) ?_; simp only [AR, AW7, simprocAttr]
    refine Run.retW [6, 7] (by decide) (by rw [hfn]; rfl) (by simp only [AW7, simprocAttr, hX]; rfl) (by simp only [AW7, simprocAttr, hX]) (hfin _ _ rfl rfl ?_)
    exact ⟨[], 0, true, [.bool false], ⟨by unfold itvX; rw [e1]; rfl, rfl, by rw [e1]⟩, by simp [lb1], rfl, rfl, rfl⟩
  intro h
  have hl : lowB c v = true := by revert h; cases hp : lowB c v <;> simp
  have hu : wordB c u = true := by revert h; cases hw : wordB c u <;> simp [hl]
  have hI : itvB c u v = true := by simp [itvB, hl, hu]
  have hlen := lowX_len c v
  rw [← hys, rwl] at hlen
  refine Run.nq ?_; refine Run.regionW hC (fun K hK => ?_); simp only [AW7, simprocAttr, hX]; (repeat (with_reducible refine And.intro ?_ ?_); exact vc0); refine hK _ ?_; clear hK K; refine Run.nq ?_
  refine Run.reK hpin [0, 1, 8, 9, 11] [1, 0] (by decide) (by simp) ?_; simp only [AR, AW7, simprocAttr]
  refine Run.loopI (X := List (Nat × List Int) × Nat) (fun s => ⟨49, [(0, true, .v (.sl false (.row false) (c))), (1, true, .v (.sl false .int (u))), (8, true, .v (.own 1 0)), (9, true, .v (.own 0 0)), (11, true, .v (.int .i64 (s.2)))], [.arr .lrow (ys) 0 true, .arr .lrow (s.1) 0 true]⟩) (fun s => s.2 ≤ ys.length ∧ (s.1.length ≤ s.2) ∧ (lb1 s.1).Sublist ((lb1 ys).take s.2) ∧ rw2 s.1 = ((rw2 ys).take s.2).filter (fun x => brB c u x)) (fun s => ys.length - s.2) (([], 0)) (⟨Nat.zero_le _, by simp, by simp [lb1], by simp [rw2]⟩) ?_ ?_
  · exact Le.sub (by first | rfl | simp) (by simp only [AW7, simprocAttr, hX]; try simp <;> try (first | rfl | exact ⟨rfl, rfl⟩ | exact ⟨rfl, rfl, rfl⟩))
  rintro ⟨zs, k⟩ ⟨hk, hzl, hz1, hz2⟩ ih
  try simp only []
  simp only [] at hk hzl hz1 hz2
  refine Run.nq ?_; refine Run.regionW hC (fun K hK => ?_); simp only [AW7, simprocAttr, hX]; (repeat (with_reducible refine And.intro ?_ ?_); exact vc0); refine hK _ ?_; clear hK K; refine Run.nq ?_
  refine Run.nq ?_; refine Run.condW (by simp only [AW7, simprocAttr, hX]; rfl) (by simp only [AW7, simprocAttr, hX]) ?_ ?_
  rotate_left
  · intro h2
    have h2 : k = ys.length := by rw [decide_eq_false_iff_not] at h2; omega
    refine Run.exit rfl ?_; refine Run.nq ?_
    refine Run.nq ?_; refine Run.regionW hC (fun K hK => ?_); simp only [AW7, simprocAttr, hX]; (repeat (with_reducible refine And.intro ?_ ?_); exact vc0); refine hK _ ?_; clear hK K; refine Run.nq ?_
    refine Run.reK hpin [6, 7] [1] (by decide) (by simp) ?_; simp only [AR, AW7, simprocAttr]
    refine Run.retW [6, 7] (by decide) (by rw [hfn]; rfl) (by simp only [AW7, simprocAttr, hX]; rfl) (by simp only [AW7, simprocAttr, hX]) (hfin _ _ rfl rfl ?_)
    refine ⟨zs, 0, true, [.bool true], ⟨?_, rfl, by rw [hI]⟩, ?_, rfl, rfl, rfl⟩
    · rw [hz2, h2, show (rw2 ys).take ys.length = rw2 ys from List.take_of_length_le (by rw [rwl]; exact Nat.le_refl _), hys]
      unfold itvX
      rw [hI, if_pos rfl]
    · exact (hz1.trans (List.take_sublist _ _)).nodup hnd
  intro h2
  have h2 : k < ys.length := by rw [decide_eq_true_eq] at h2; omega
  have hgz := rwg ys k
  have hfs := filter_snoc (p := fun x => brB c u x) (rw2 ys) k (by rw [rwl]; exact h2)
  have hls : (lb1 ys).take (k + 1) = (lb1 ys).take k ++ [(ys.getD k (0, [])).1] := by
    have hk2 : k < (lb1 ys).length := by simp [lb1]; exact h2
    rw [List.take_succ_eq_append_getElem hk2, getD_eq h2]
    simp [lb1]
  rw [← hgz] at hfs
  generalize hgx : (ys.getD k (0, [])).2 = z at *
  generalize hgq : (ys.getD k (0, [])).1 = q at *
  refine Run.nq ?_; refine Run.regionW hC (fun K hK => ?_); simp only [AW7, simprocAttr, hX]; (repeat (with_reducible refine And.intro ?_ ?_); exact vc0)
  simp only [Int.toNat_natCast, hgx, hgq]
  refine FunA.callW hP hT (c_spec_IsBruhatBelow c u z hcl) (by simp only [AW7, simprocAttr]) ?_
  rintro rs o ⟨rfl, rfl⟩
  (try simp only [AW7, simprocAttr, hX]); (repeat (with_reducible refine And.intro ?_ ?_); exact vc0)
  (repeat (with_reducible refine And.intro ?_ ?_); exact vc0); refine hK _ ?_; clear hK K; refine Run.nq ?_
  refine Run.nq ?_; refine Run.condW (by simp only [AW7, simprocAttr, hX]; rfl) (by simp only [AW7, simprocAttr, hX]) ?_ ?_
  · intro h3
    have h3 : brB c u z = true := h3
    refine Run.nq ?_; refine Run.regionW hC (fun K hK => ?_); simp only [AW7, simprocAttr, hX]; (repeat (with_reducible refine And.intro ?_ ?_); exact vc0); refine hK _ ?_; clear hK K; refine Run.nq ?_
    simp only [Int.toNat_natCast, hgx, hgq]
    rw [if_pos h3] at hfs
    refine Run.reK hpin [0, 1, 8, 9, 11] [0, 1] (by decide) (by simp) ?_; simp only [AR, AW7, simprocAttr]
    refine Run.nq ?_; refine Run.regionW hC (fun K hK => ?_); simp (disch := omega) only [wrap_id, AW7, simprocAttr, hX]; (repeat (with_reducible refine And.intro ?_ ?_); exact vc0); refine hK _ ?_; clear hK K; refine Run.nq ?_
    refine Run.le ?_ (ih ((zs ++ [(q, z)], k + 1)) (⟨h2, by simp; omega, by rw [lb1_app, hls]; exact hz1.append (List.Sublist.refl _), by rw [rw2_app, hfs, hz2]; rfl⟩) (by (try simp only [List.length_append, List.length_cons, List.length_nil]); omega))
    exact Le.sub (by rfl) (by simp only [AW7, simprocAttr]; try simp)
  intro h3
  have h3 : ¬ brB c u z = true := by have h3 : brB c u z = false := h3; rw [h3]; simp
  rw [if_neg h3] at hfs
  refine Run.reK hpin [0, 1, 8, 9, 11] [0, 1] (by decide) (by simp) ?_; simp only [AR, AW7, simprocAttr]
  refine Run.nq ?_; refine Run.regionW hC (fun K hK => ?_); simp (disch := omega) only [wrap_id, AW7, simprocAttr, hX]; (repeat (with_reducible refine And.intro ?_ ?_); exact vc0); refine hK _ ?_; clear hK K; refine Run.nq ?_
  refine Run.le ?_ (ih ((zs, k + 1)) (⟨h2, by simp only []; omega, by rw [hls]; exact hz1.trans (List.sublist_append_left _ _), by rw [hfs, hz2]⟩) (by (try simp only [List.length_append, List.length_cons, List.length_nil]); omega))
  exact Le.sub (by rfl) (by simp only [AW7, simprocAttr]; try simp)

theorem c_impl_IntervalOf (c : List (List Int)) (u v : List Int) (hcl : c.length ≤ 1048576) :
    FunA B 27 [.sl false (.row false) c, .sl false .int u, .sl false .int v] (fun rs o => rs = [.own 0 0, .bool (itvB c u v)] ∧ ∃ hs, hs.length = (itvX c u v).length ∧ o = [.mat hs (itvX c u v) 0 true]) :=
  (FunA.mat (by rfl) (post := fun rows nn rest => rows = itvX c u v ∧ nn = true ∧ rest = [.bool (itvB c u v)]) (c_impl_IntervalOfR c u v hcl)).mono fun rs o ⟨hs, rows, nn, rest, ⟨h1, h2, h3⟩, h4, h5, h6⟩ => by subst h1 h2 h3; exact ⟨h5, hs, h4, h6⟩
theorem c_spec_IntervalOf (c : List (List Int)) (u v : List Int) (hcl : c.length ≤ 1048576) :
    FunA B 26 [.sl false (.row false) c, .sl false .int u, .sl false .int v] (fun rs o => rs = [.own 0 0, .bool (itvB c u v)] ∧ ∃ hs, hs.length = (itvX c u v).length ∧ o = [.mat hs (itvX c u v) 0 true]) :=
  (FunA.mat (by rfl) (post := fun rows nn rest => rows = itvX c u v ∧ nn = true ∧ rest = [.bool (itvB c u v)]) (c_spec_IntervalOfR c u v hcl)).mono fun rs o ⟨hs, rows, nn, rest, ⟨h1, h2, h3⟩, h4, h5, h6⟩ => by subst h1 h2 h3; exact ⟨h5, hs, h4, h6⟩
end Go.Proofs.Ytdhfonblpbpmmaa

/- The Moebius function of the Bruhat order, on both sides. -/
import Derived.Test.YtdhfonblpbpmmaaItv
import Derived.Test.YtdhfonblpbpmmaaVerma
import Derived.Test.YtdhfonblpbpmmaaCnt
set_option linter.unusedVariables false
set_option linter.unusedSimpArgs false
namespace Go.Proofs.Ytdhfonblpbpmmaa
open Go Go.Aw Go.Cox

theorem eps_red {c : List (List Int)} {w : List Int} (h : wordB c w = true) : eps (redL c w) = eps w := by
  obtain ⟨hc, h2, h3⟩ := wordB_iff.1 h
  have := (red_spec hc h3 (by omega)).2.2.1
  unfold eps
  rw [this]
theorem lowB_word {c : List (List Int)} {w : List Int} (h : lowB c w = true) : wordB c w = true := by
  revert h; unfold lowB; cases wordB c w <;> simp
theorem lowX_iff {c : List (List Int)} {w : List Int} (h : lowB c w = true) (z : List Int) : z ∈ lowX c w ↔ Low c (redL c w) z := by
  have hw := lowB_word h
  unfold lowX
  rw [hw, if_pos rfl]
  refine fewL_iff' ?_ z
  revert h; unfold lowB; rw [hw]; simp
where
  fewL_iff' {R : List Int → Prop} (h : fewB R = true) (z : List Int) : z ∈ fewL R ↔ R z := by
    have h : FewP R := by simpa [fewB] using h
    unfold fewL
    rw [dif_pos h, (srt_spec _).2]
    exact h.choose_spec.2.1 z
theorem lowX_strict (c : List (List Int)) (w : List Int) : StrictW (lowX c w) := by
  unfold lowX
  split
  · unfold fewL
    split
    · exact (srt_spec _).1
    · exact StrictW.nil
  · exact StrictW.nil
theorem itvX_strict (c : List (List Int)) (u v : List Int) : StrictW (itvX c u v) := by
  unfold itvX
  split
  · exact List.Pairwise.filter _ (lowX_strict c v)
  · exact StrictW.nil
theorem itvX_iff {c : List (List Int)} {u v : List Int} (h : itvB c u v = true) (z : List Int) : z ∈ itvX c u v ↔ Low c (redL c v) z ∧ SubI c z (imageL c (redL c u)) := by
  have hl : lowB c v = true := by revert h; unfold itvB; cases lowB c v <;> simp
  have hu : wordB c u = true := by revert h; unfold itvB; cases wordB c u <;> simp
  obtain ⟨hc, u2, u3⟩ := wordB_iff.1 hu
  obtain ⟨a1, a2, a3, a4, a5⟩ := red_spec hc u3 (by omega)
  unfold itvX
  rw [h, if_pos rfl, List.mem_filter, lowX_iff hl]
  refine and_congr_right fun hz => ?_
  have hz2 := lowX_rows c v z ((lowX_iff hl z).2 hz)
  have hwz : wordB c z = true := wordB_iff.2 ⟨hc, hz2, hz.1.1⟩
  have : brB c u z = belB c (imageL c u) z := by simp [brB, hu, hwz, hz.1.2.1]
  rw [this, a4]
  exact bel_sub hc z hz.1.1 a5

theorem strict_len2 {L : List (List Int)} (h : StrictW L) : ∀ {i j : Nat}, i ≤ j → j < L.length → (L.getD i []).length ≤ (L.getD j []).length := by
  intro i j hij hj
  by_cases e : i = j
  · rw [e]; exact Nat.le_refl _
  have hi : i < L.length := by omega
  have := List.pairwise_iff_getElem.1 h i j hi hj (by omega)
  rw [getD_eq hi, getD_eq hj]
  refine Classical.byContradiction fun hn => ?_
  revert this
  unfold cmpW
  rw [if_neg (by omega), if_pos (by omega)]
  exact fun e => absurd e (by decide)
theorem Low.short {c : List (List Int)} (hc : CartanP c) {y z : List Int} (hy : Nf c y) (h : Low c y z) (hne : z ≠ y) : z.length < y.length := by
  obtain ⟨k, hk, hR, hS⟩ := sub_chain hc (hy.red hc) hy.2.2 h.2 (fun e => hne (nf_same h.1 hy e))
  have := Low.len hc hR.1 ⟨h.1, hS⟩
  have := delA_len hk
  omega

/-- The sum over what lies below place i, of the first k places. -/
def pS (c : List (List Int)) (L : List (List Int)) (i k : Nat) : Int := (((List.range k).filter fun m => belB c (imageL c (L.getD m [])) (L.getD i [])).map fun m => eps (L.getD m [])).sum
theorem pS_succ (c : List (List Int)) (L : List (List Int)) (i k : Nat) : pS c L i (k + 1) = if belB c (imageL c (L.getD k [])) (L.getD i []) = true then pS c L i k + eps (L.getD k []) else pS c L i k := by
  unfold pS
  rw [List.range_succ, List.filter_append, List.map_append, List.sum_append]
  by_cases h : belB c (imageL c (L.getD k [])) (L.getD i []) = true
  · rw [if_pos h]
    congr 1
    have : List.filter (fun m => belB c (imageL c (L.getD m [])) (L.getD i [])) [k] = [k] := by rw [List.filter_cons, if_pos h]; rfl
    rw [this]; simp
  · rw [if_neg h]
    have : List.filter (fun m => belB c (imageL c (L.getD m [])) (L.getD i [])) [k] = [] := by rw [List.filter_cons, if_neg h]; rfl
    rw [this]; simp
theorem pS_bound (c : List (List Int)) (L : List (List Int)) (i : Nat) : ∀ k : Nat, -((k : Nat) : Int) ≤ pS c L i k ∧ pS c L i k ≤ ((k : Nat) : Int)
  | 0 => by simp [pS]
  | k + 1 => by
    have := pS_bound c L i k
    rw [pS_succ]
    have he := eps_cases (L.getD k [])
    split
    · rcases he with h | h <;> rw [h] <;> omega
    · omega

theorem itv_ends {c : List (List Int)} {u v : List Int} (h : itvB c u v = true) (hne : 0 < (itvX c u v).length) : (itvX c u v).getD 0 [] = redL c u ∧ (itvX c u v).getD ((itvX c u v).length - 1) [] = redL c v := by
  have hl : lowB c v = true := by revert h; unfold itvB; cases lowB c v <;> simp
  have hu : wordB c u = true := by revert h; unfold itvB; cases wordB c u <;> simp
  have hv := lowB_word hl
  have hc := (wordB_iff.1 hu).1
  obtain ⟨nu, lu⟩ := word_nf hu
  obtain ⟨nv, lv⟩ := word_nf hv
  have mem := itvX_iff h
  have hS := itvX_strict c u v
  generalize itvX c u v = L at *
  have get : ∀ i, i < L.length → L.getD i [] ∈ L := fun i hi => by rw [getD_eq hi]; exact List.getElem_mem hi
  obtain ⟨p1, p2⟩ := (mem _).1 (get 0 hne)
  have hux : SubI c (redL c v) (imageL c (redL c u)) := (p1.trans hc ⟨nu, p2⟩ nv.1).2
  have hu0 : redL c u ∈ L := (mem _).2 ⟨⟨nu, hux⟩, SubI.self c _⟩
  have hv0 : redL c v ∈ L := (mem _).2 ⟨Low.self nv, hux⟩
  constructor
  · refine Classical.byContradiction fun hne2 => ?_
    have h1 : (redL c u).length < (L.getD 0 []).length := Low.short hc p1.1 ⟨nu, p2⟩ (fun e => hne2 e.symm)
    obtain ⟨j, hj, e⟩ := List.getElem_of_mem hu0
    have := strict_len2 hS (Nat.zero_le j) hj
    rw [getD_eq hj, e] at this
    omega
  · refine Classical.byContradiction fun hne2 => ?_
    obtain ⟨q1, q2⟩ := (mem _).1 (get (L.length - 1) (by omega))
    have h1 := Low.short hc nv q1 hne2
    obtain ⟨j, hj, e⟩ := List.getElem_of_mem hv0
    have := strict_len2 hS (by omega : j ≤ L.length - 1) (by omega)
    rw [getD_eq hj, e] at this
    omega

theorem moe_sum {c : List (List Int)} {u v : List Int} (h : itvB c u v = true) {i : Nat} (hi : i < (itvX c u v).length) (hi0 : 0 < i) : pS c (itvX c u v) i i = - eps ((itvX c u v).getD i []) := by
  have hl : lowB c v = true := by revert h; unfold itvB; cases lowB c v <;> simp
  have hu : wordB c u = true := by revert h; unfold itvB; cases wordB c u <;> simp
  have hv := lowB_word hl
  have hc := (wordB_iff.1 hu).1
  obtain ⟨nu, lu⟩ := word_nf hu
  obtain ⟨nv, lv⟩ := word_nf hv
  have h0 := (itv_ends h (by omega)).1
  have mem := itvX_iff h
  have hS := itvX_strict c u v
  generalize itvX c u v = L at *
  have get : ∀ i, i < L.length → L.getD i [] ∈ L := fun i hi => by rw [getD_eq hi]; exact List.getElem_mem hi
  have inj : ∀ i j, i < L.length → j < L.length → L.getD i [] = L.getD j [] → i = j := fun i j hi hj e => by
    rw [getD_eq hi, getD_eq hj] at e
    exact (List.getElem_inj (strict_nodup hS)).1 e
  obtain ⟨q1, q2⟩ := (mem _).1 (get i hi)
  have hyl := q1.len hc nv.1
  have hV := verma hc _ (redL c u) (L.getD i []) rfl (by omega) nu q1.1 q2 (fun e => by
    rw [← h0] at e
    have := inj 0 i (by omega) hi e
    omega)
  have hA : sumE ((((List.range i).filter fun m => belB c (imageL c (L.getD m [])) (L.getD i [])).map fun m => L.getD m []) ++ [L.getD i []]) = sumE (btwL c (redL c u) (L.getD i [])) := by
    refine sum_same ?_ (btwL_nodup ..) fun z => ?_
    · rw [List.nodup_append]
      refine ⟨?_, by simp, fun a ha b hb e => ?_⟩
      · refine List.pairwise_map.2 (List.Pairwise.imp_of_mem (R := fun a b => a ≠ b) (fun {a b} ha hb hne e => hne ?_) (List.Pairwise.filter _ List.nodup_range))
        have ha := List.mem_range.1 (List.mem_filter.1 ha).1
        have hb := List.mem_range.1 (List.mem_filter.1 hb).1
        exact inj a b (by omega) (by omega) e
      · obtain ⟨m, hm, rfl⟩ := List.mem_map.1 ha
        have hm := List.mem_range.1 (List.mem_filter.1 hm).1
        have hb : b = L.getD i [] := by simpa using hb
        rw [hb] at e
        have := inj m i (by omega) hi e
        omega
    · rw [btwL_mem hc q1.1.1 (by omega), List.mem_append, List.mem_map]
      constructor
      · rintro (⟨m, hm, rfl⟩ | hz)
        · obtain ⟨h1, h2⟩ := List.mem_filter.1 hm
          have h1 := List.mem_range.1 h1
          obtain ⟨r1, r2⟩ := (mem _).1 (get m (by omega))
          exact ⟨⟨r1.1, (bel_sub hc _ q1.1.1 (r1.1.far hc)).1 h2⟩, r2⟩
        · have hz : z = L.getD i [] := by simpa using hz
          rw [hz]
          exact ⟨Low.self q1.1, q2⟩
      · rintro ⟨r1, r2⟩
        by_cases hz : z = L.getD i []
        · right; rw [hz]; simp
        · left
          have hzL : z ∈ L := (mem z).2 ⟨q1.trans hc r1 nv.1, r2⟩
          obtain ⟨m, hm, e⟩ := List.getElem_of_mem hzL
          have hsh := Low.short hc q1.1 r1 hz
          have hmi : m < i := by
            refine Classical.byContradiction fun hn => ?_
            have := strict_len2 hS (by omega : i ≤ m) hm
            rw [getD_eq hm, e] at this
            omega
          refine ⟨m, List.mem_filter.2 ⟨List.mem_range.2 hmi, ?_⟩, by rw [getD_eq hm]; exact e⟩
          rw [getD_eq hm, e]
          exact (bel_sub hc _ q1.1.1 (r1.1.far hc)).2 r1.2
  rw [hV] at hA
  have hsum : sumE ((((List.range i).filter fun m => belB c (imageL c (L.getD m [])) (L.getD i [])).map fun m => L.getD m []) ++ [L.getD i []]) = pS c L i i + eps (L.getD i []) := by
    unfold sumE pS
    rw [List.map_append, List.sum_append, List.map_map]
    simp [Function.comp_def]
  rw [hsum] at hA
  omega

noncomputable def moZ (c : List (List Int)) (u v : List Int) : Int := if 0 < (itvX c u v).length then eps u * eps v else 0
theorem moZ_last {c : List (List Int)} {u v : List Int} (h : itvB c u v = true) (hne : 0 < (itvX c u v).length) : moZ c u v = eps ((itvX c u v).getD ((itvX c u v).length - 1) []) * eps ((itvX c u v).getD 0 []) := by
  have hl : lowB c v = true := by revert h; unfold itvB; cases lowB c v <;> simp
  have hu : wordB c u = true := by revert h; unfold itvB; cases wordB c u <;> simp
  obtain ⟨e1, e2⟩ := itv_ends h hne
  unfold moZ
  rw [if_pos hne, e1, e2, eps_red hu, eps_red (lowB_word hl), Int.mul_comm]
theorem itvX_off {c : List (List Int)} {u v : List Int} (h : itvB c u v = false) : itvX c u v = [] := by unfold itvX; rw [h]; rfl

theorem c_impl_SignOf (w : List Int) : FunA B 55 [.sl false .int w] (fun rs o => rs = [.int .i64 (eps w)] ∧ o = []) := by
  have e : ((w.length : Int).tmod 2 == 0) = decide (w.length % 2 = 0) := by
    have h : (w.length : Int).tmod 2 = ((w.length % 2 : Nat) : Int) := rfl
    rw [h]
    rcases Nat.mod_two_eq_zero_or_one w.length with h | h <;> rw [h] <;> rfl
  refine FunA.walk B_ok (fn := Try.f55) (fun vs w => Try.call55 vs w) Try.func55 rfl (by rw [Try.ntmps55]; simp) (fun C hC hP hT hΓ hbt hfn hpin hfin => ?_); have hX := BX; rw [← hΓ, ← hbt.1, ← hbt.2] at hX; rw [Try.ntmps55]; simp only [AW7, simprocAttr, hX]
  refine Run.nq ?_; refine Run.regionW hC (fun K hK => ?_); simp only [AW7, simprocAttr, hX]; (repeat (with_reducible refine And.intro ?_ ?_); exact vc0); refine hK _ ?_; clear hK K; refine Run.nq ?_
  refine Run.nq ?_; refine Run.regionW hC (fun K hK => ?_); simp only [AW7, simprocAttr, hX]; (repeat (with_reducible refine And.intro ?_ ?_); exact vc0); refine hK _ ?_; clear hK K; refine Run.nq ?_
  rw [e]
  refine Run.nq ?_; refine Run.condW (by simp only [AW7, simprocAttr, hX]; rfl) (by simp only [AW7, simprocAttr, hX]) ?_ ?_
  · intro h
    have h : w.length % 2 = 0 := by simpa using h
    refine Run.nq ?_; refine Run.regionW hC (fun K hK => ?_); simp only [AW7, simprocAttr, hX]; (repeat (with_reducible refine And.intro ?_ ?_); exact vc0); refine hK _ ?_; clear hK K; refine Run.nq ?_
    refine Run.retW [2] (by decide) (by rw [hfn]; rfl) (by simp only [AW7, simprocAttr, hX]; rfl) (by simp only [AW7, simprocAttr, hX]) (hfin _ _ rfl rfl ?_)
    simp [eps, h]
  intro h
  have h : ¬ w.length % 2 = 0 := by simpa using h
  refine Run.nq ?_; refine Run.regionW hC (fun K hK => ?_); simp only [AW7, simprocAttr, hX]; (repeat (with_reducible refine And.intro ?_ ?_); exact vc0); refine hK _ ?_; clear hK K; refine Run.nq ?_
  refine Run.retW [2] (by decide) (by rw [hfn]; rfl) (by simp only [AW7, simprocAttr, hX]; rfl) (by simp only [AW7, simprocAttr, hX]) (hfin _ _ rfl rfl ?_)
  simp [eps, h]

theorem c_impl_MoebiusOf (c : List (List Int)) (u v : List Int) (hcl : c.length ≤ 1048576) :
    FunA B 29 [.sl false (.row false) c, .sl false .int u, .sl false .int v] (fun rs o => rs = [.int .i64 (moZ c u v), .bool (itvB c u v)] ∧ o = []) := by
  refine FunA.walk B_ok (fn := Try.f29) (fun vs w => Try.call29 vs w) Try.func29 rfl (by rw [Try.ntmps29]; simp) (fun C hC hP hT hΓ hbt hfn hpin hfin => ?_); have hX := BX; rw [← hΓ, ← hbt.1, ← hbt.2] at hX; rw [Try.ntmps29]; simp only [AW7, simprocAttr, hX]
  refine Run.nq ?_; refine Run.regionW hC (fun K hK => ?_); simp only [AW7, simprocAttr, hX]; (repeat (with_reducible refine And.intro ?_ ?_); exact vc0); refine hK _ ?_; clear hK K; refine Run.nq ?_
  refine Run.nq ?_; refine Run.regionW hC (fun K hK => ?_); simp only [AW7, simprocAttr, hX]; (repeat (with_reducible refine And.intro ?_ ?_); exact vc0)
  refine FunA.callW hP hT (c_impl_IntervalOfR c u v hcl) (by simp only [AW7, simprocAttr]) ?_
  rintro rs o ⟨ys, g, nn, rest, ⟨hys, rfl, rfl⟩, hnd, _, rfl, rfl⟩
  (try simp only [AW7, simprocAttr, hX]); (repeat (with_reducible refine And.intro ?_ ?_); exact vc0)
  (repeat (with_reducible refine And.intro ?_ ?_); exact vc0); refine hK _ ?_; clear hK K; refine Run.nq ?_
  have hyl : ys.length = (itvX c u v).length := by rw [← hys, rwl]
  refine Run.nq ?_; refine Run.regionW hC (fun K hK => ?_); simp only [AW7, simprocAttr, hX]; (repeat (with_reducible refine And.intro ?_ ?_); exact vc0); refine hK _ ?_; clear hK K; refine Run.nq ?_
  refine Run.nq ?_; refine Run.condW (by simp only [AW7, simprocAttr, hX]; rfl) (by simp only [AW7, simprocAttr, hX]) ?_ ?_
  · intro h
    have h : itvB c u v = false := by simpa using h
    refine Run.nq ?_; refine Run.regionW hC (fun K hK => ?_); simp only [AW7, simprocAttr, hX]; (repeat (with_reducible refine And.intro ?_ ?_); exact vc0); refine hK _ ?_; clear hK K; refine Run.nq ?_
    refine Run.reK hpin [6, 7] [] (by decide) (by simp) ?_; simp only [AR, AW7, simprocAttr]
    refine Run.retW [6, 7] (by decide) (by rw [hfn]; rfl) (by simp only [AW7, simprocAttr, hX]; rfl) (by simp only [AW7, simprocAttr, hX]) (hfin _ _ rfl rfl ?_)
    simp [moZ, itvX_off h, h]
  intro h
  have h : itvB c u v = true := by simpa using h
  refine Run.nq ?_; refine Run.regionW hC (fun K hK => ?_); simp only [AW7, simprocAttr, hX]; (repeat (with_reducible refine And.intro ?_ ?_); exact vc0); refine hK _ ?_; clear hK K; refine Run.nq ?_
  refine Run.nq ?_; refine Run.condW (by simp only [AW7, simprocAttr, hX]; rfl) (by simp only [AW7, simprocAttr, hX]) ?_ ?_
  · intro h2
    have h2 : ¬ 0 < (itvX c u v).length := by
      have h2 : (ys.length : Int) = 0 := by simpa using h2
      omega
    refine Run.nq ?_; refine Run.regionW hC (fun K hK => ?_); simp only [AW7, simprocAttr, hX]; (repeat (with_reducible refine And.intro ?_ ?_); exact vc0); refine hK _ ?_; clear hK K; refine Run.nq ?_
    refine Run.reK hpin [6, 7] [] (by decide) (by simp) ?_; simp only [AR, AW7, simprocAttr]
    refine Run.retW [6, 7] (by decide) (by rw [hfn]; rfl) (by simp only [AW7, simprocAttr, hX]; rfl) (by simp only [AW7, simprocAttr, hX]) (hfin _ _ rfl rfl ?_)
    simp only [moZ, if_neg h2, h, and_true]
  intro h2
  have h2 : 0 < (itvX c u v).length := by
    have h2 : ¬ (ys.length : Int) = 0 := by simpa using h2
    omega
  have hb : -1 ≤ eps u * eps v ∧ eps u * eps v ≤ 1 := by
    rcases eps_cases u with e1 | e1 <;> rcases eps_cases v with e2 | e2 <;> rw [e1, e2] <;> decide
  refine Run.nq ?_; refine Run.regionW hC (fun K hK => ?_); simp only [AW7, simprocAttr, hX]; (repeat (with_reducible refine And.intro ?_ ?_); exact vc0)
  refine FunA.callW hP hT (c_impl_SignOf u) (by simp only [AW7, simprocAttr]) ?_
  rintro rs o ⟨rfl, rfl⟩
  (try simp only [AW7, simprocAttr, hX]); (repeat (with_reducible refine And.intro ?_ ?_); exact vc0)
  refine FunA.callW hP hT (c_impl_SignOf v) (by simp only [AW7, simprocAttr]) ?_
  rintro rs o ⟨rfl, rfl⟩
  simp (disch := omega) only [wrap_id, AW7, simprocAttr, hX]; (repeat (with_reducible refine And.intro ?_ ?_); exact vc0)
  (repeat (with_reducible refine And.intro ?_ ?_); exact vc0); refine hK _ ?_; clear hK K; refine Run.nq ?_
  refine Run.reK hpin [6, 7] [] (by decide) (by simp) ?_; simp only [AR, AW7, simprocAttr]
  refine Run.retW [6, 7] (by decide) (by rw [hfn]; rfl) (by simp only [AW7, simprocAttr, hX]; rfl) (by simp only [AW7, simprocAttr, hX]) (hfin _ _ rfl rfl ?_)
  simp only [moZ, if_pos h2, h, and_true]

set_option maxHeartbeats 1000000 in
theorem c_spec_MoebiusOf (c : List (List Int)) (u v : List Int) (hcl : c.length ≤ 1048576) :
    FunA B 28 [.sl false (.row false) c, .sl false .int u, .sl false .int v] (fun rs o => rs = [.int .i64 (moZ c u v), .bool (itvB c u v)] ∧ o = []) := by
  refine FunA.walk B_ok (fn := Try.f28) (fun vs w => Try.call28 vs w) Try.func28 rfl (by rw [Try.ntmps28]; simp) (fun C hC hP hT hΓ hbt hfn hpin hfin => ?_); have hX := BX; rw [← hΓ, ← hbt.1, ← hbt.2] at hX; rw [Try.ntmps28]; simp only [AW7, simprocAttr, hX]
  refine Run.nq ?_; refine Run.regionW hC (fun K hK => ?_); simp only [AW7, simprocAttr, hX]; (repeat (with_reducible refine And.intro ?_ ?_); exact vc0); refine hK _ ?_; clear hK K; refine Run.nq ?_
  refine Run.nq ?_; refine Run.regionW hC (fun K hK => ?_); simp only [AW7, simprocAttr, hX]; (repeat (with_reducible refine And.intro ?_ ?_); exact vc0)
  refine FunA.callW hP hT (c_spec_IntervalOfR c u v hcl) (by simp only [AW7, simprocAttr]) ?_
  rintro rs o ⟨ys, g, nn, rest, ⟨hys, rfl, rfl⟩, hnd, _, rfl, rfl⟩
  (try simp only [AW7, simprocAttr, hX]); (repeat (with_reducible refine And.intro ?_ ?_); exact vc0)
  (repeat (with_reducible refine And.intro ?_ ?_); exact vc0); refine hK _ ?_; clear hK K; refine Run.nq ?_
  have hyl : ys.length = (itvX c u v).length := by rw [← hys, rwl]
  refine Run.nq ?_; refine Run.regionW hC (fun K hK => ?_); simp only [AW7, simprocAttr, hX]; (repeat (with_reducible refine And.intro ?_ ?_); exact vc0); refine hK _ ?_; clear hK K; refine Run.nq ?_
  refine Run.nq ?_; refine Run.condW (by simp only [AW7, simprocAttr, hX]; rfl) (by simp only [AW7, simprocAttr, hX]) ?_ ?_
  · intro h
    have h3 : moZ c u v = 0 := by
      unfold moZ
      rw [if_neg ?_]
      cases hb : itvB c u v with
      | false => rw [itvX_off hb]; simp
      | true =>
        rw [hb] at h
        have h : (ys.length : Int) = 0 := by simpa using h
        omega
    refine Run.nq ?_; refine Run.regionW hC (fun K hK => ?_); simp only [AW7, simprocAttr, hX]; (repeat (with_reducible refine And.intro ?_ ?_); exact vc0); refine hK _ ?_; clear hK K; refine Run.nq ?_
    refine Run.reK hpin [6, 7] [] (by decide) (by simp) ?_; simp only [AR, AW7, simprocAttr]
    refine Run.retW [6, 7] (by decide) (by rw [hfn]; rfl) (by simp only [AW7, simprocAttr, hX]; rfl) (by simp only [AW7, simprocAttr, hX]) (hfin _ _ rfl rfl ?_)
    rw [h3]
    exact ⟨rfl, rfl⟩
  intro h
  have hI : itvB c u v = true := by
    cases hb : itvB c u v with
    | true => rfl
    | false => rw [hb] at h; simp at h
  have hne : 0 < ys.length := by
    rw [hI] at h
    have h : ¬ (ys.length : Int) = 0 := by simpa using h
    omega
  have hle := itvX_len c u v
  have hlast := moZ_last hI (by omega)
  have hsum := fun i => moe_sum (i := i) hI
  have mem := fun z => itvX_iff hI z
  have hrows := itvX_rows c u v
  rw [← hys] at hlast hsum mem hrows
  have hcc : CartanP c := by
    have hu : wordB c u = true := by revert hI; unfold itvB; cases wordB c u <;> simp
    exact (wordB_iff.1 hu).1
  have hnf : ∀ k, k < ys.length → Nf c ((rw2 ys).getD k []) ∧ ((rw2 ys).getD k []).length ≤ 15 := fun k hk => by
    have hm : (rw2 ys).getD k [] ∈ rw2 ys := by rw [← rwg]; exact mem_rw2 hk
    exact ⟨((mem _).1 hm).1.1, hrows _ hm⟩
  generalize hE0 : eps ((rw2 ys).getD 0 []) = e0 at *
  have he0 : e0 = 1 ∨ e0 = -1 := by rw [← hE0]; exact eps_cases _
  have hpb := fun i k => pS_bound c (rw2 ys) i k
  have hnb : ∀ i k : Nat, -(k : Int) ≤ pS c (rw2 ys) i k * e0 ∧ pS c (rw2 ys) i k * e0 ≤ k := fun i k => by
    have := hpb i k
    rcases he0 with e | e <;> rw [e] <;> omega
  refine Run.nq ?_; refine Run.regionW hC (fun K hK => ?_); simp only [AW7, simprocAttr, hX]; (repeat (with_reducible refine And.intro ?_ ?_); exact vc0); refine hK _ ?_; clear hK K; refine Run.nq ?_
  refine Run.nq ?_; refine Run.regionW hC (fun K hK => ?_); simp only [AW7, simprocAttr, hX]; (repeat (with_reducible refine And.intro ?_ ?_); exact vc0); refine hK _ ?_; clear hK K; refine Run.nq ?_
  refine Run.reK hpin [0, 7, 8, 9, 10, 11] [0, 1] (by decide) (by simp) ?_; simp only [AR, AW7, simprocAttr]
  refine Run.loopI (X := List Int × Nat) (fun s => ⟨75, [(0, true, .v (.sl false (.row false) (c))), (7, true, .v (.bool (false))), (8, true, .v (.own 0 0)), (9, true, .v (.bool ((itvB c u v)))), (10, true, .v (.own 1 0)), (11, true, .v (.int .i64 (s.2)))], [.arr .lrow (ys) 0 true, .arr .int (s.1) 0 true]⟩) (fun s => s.2 ≤ ys.length ∧ s.1.length = ys.length ∧ ∀ m, m < s.2 → s.1.getD m 0 = eps ((rw2 ys).getD m []) * e0) (fun s => ys.length - s.2) ((List.replicate ys.length 0, 0)) (⟨Nat.zero_le _, by simp, fun m hm => absurd hm (Nat.not_lt_zero _)⟩) ?_ ?_
  · exact Le.sub (by first | rfl | simp) (by simp only [AW7, simprocAttr, hX]; try simp <;> try (first | rfl | exact ⟨rfl, rfl⟩ | exact ⟨rfl, rfl, rfl⟩))
  rintro ⟨xs, i⟩ ⟨hi, hxl, hxs⟩ ihO
  try simp only []
  simp only [] at hi hxl hxs
  refine Run.nq ?_; refine Run.regionW hC (fun K hK => ?_); simp only [AW7, simprocAttr, hX]; (repeat (with_reducible refine And.intro ?_ ?_); exact vc0); refine hK _ ?_; clear hK K; refine Run.nq ?_
  refine Run.nq ?_; refine Run.condW (by simp only [AW7, simprocAttr, hX]; rfl) (by simp only [AW7, simprocAttr, hX]) ?_ ?_
  rotate_left
  · intro h2
    have h2 : i = ys.length := by rw [decide_eq_false_iff_not] at h2; omega
    refine Run.exit rfl ?_; refine Run.nq ?_
    refine Run.nq ?_; refine Run.regionW hC (fun K hK => ?_); simp (disch := omega) only [wrap_id, AW7, simprocAttr, hX]; (repeat (with_reducible refine And.intro ?_ ?_); exact vc0); refine hK _ ?_; clear hK K; refine Run.nq ?_
    refine Run.reK hpin [6, 7] [] (by decide) (by simp) ?_; simp only [AR, AW7, simprocAttr]
    refine Run.retW [6, 7] (by decide) (by rw [hfn]; rfl) (by simp only [AW7, simprocAttr, hX]; rfl) (by simp only [AW7, simprocAttr, hX]) (hfin _ _ rfl rfl ?_)
    have e1 : ((ys.length : Int) - 1).toNat = ys.length - 1 := by omega
    rw [hlast, hI, e1, hxs _ (by omega), ← rwl]
    exact ⟨rfl, rfl⟩
  intro h2
  have h2 : i < ys.length := by rw [decide_eq_true_eq] at h2; omega
  have hyi := hnf i h2
  have hgi := rwg ys i
  refine Run.nq ?_; refine Run.regionW hC (fun K hK => ?_); simp only [AW7, simprocAttr, hX]; (repeat (with_reducible refine And.intro ?_ ?_); exact vc0); refine hK _ ?_; clear hK K; refine Run.nq ?_
  refine Run.nq ?_; refine Run.regionW hC (fun K hK => ?_); simp only [AW7, simprocAttr, hX]; (repeat (with_reducible refine And.intro ?_ ?_); exact vc0); refine hK _ ?_; clear hK K; refine Run.nq ?_
  refine Run.reK hpin [0, 7, 8, 9, 10, 11, 12, 13] [0, 1] (by decide) (by simp) ?_; simp only [AR, AW7, simprocAttr]
  refine Run.loopI (X := Nat × Int) (fun s => ⟨75, [(0, true, .v (.sl false (.row false) (c))), (7, true, .v (.bool (false))), (8, true, .v (.own 0 0)), (9, true, .v (.bool ((itvB c u v)))), (10, true, .v (.own 1 0)), (11, true, .v (.int .i64 (i))), (12, true, .v (.int .i64 (s.2))), (13, true, .v (.int .i64 (s.1)))], [.arr .lrow (ys) 0 true, .arr .int (xs) 0 true]⟩) (fun s => s.1 ≤ i ∧ s.2 = pS c (rw2 ys) i s.1 * e0) (fun s => i - s.1) ((0, 0)) (⟨Nat.zero_le _, by simp [pS]⟩) ?_ ?_
  · exact Le.sub (by first | rfl | simp) (by simp only [AW7, simprocAttr, hX]; try simp <;> try (first | rfl | exact ⟨rfl, rfl⟩ | exact ⟨rfl, rfl, rfl⟩))
  rintro ⟨j, a⟩ ⟨hj, ha⟩ ih
  try simp only []
  simp only [] at hj ha
  subst ha
  have hb := hnb i j
  refine Run.nq ?_; refine Run.regionW hC (fun K hK => ?_); simp only [AW7, simprocAttr, hX]; (repeat (with_reducible refine And.intro ?_ ?_); exact vc0); refine hK _ ?_; clear hK K; refine Run.nq ?_
  refine Run.nq ?_; refine Run.condW (by simp only [AW7, simprocAttr, hX]; rfl) (by simp only [AW7, simprocAttr, hX]) ?_ ?_
  rotate_left
  · intro h3
    have h3 : j = i := by rw [decide_eq_false_iff_not] at h3; omega
    subst h3
    refine Run.exit rfl ?_; refine Run.nq ?_
    refine Run.nq ?_; refine Run.regionW hC (fun K hK => ?_); simp (disch := omega) only [wrap_id, AW7, simprocAttr, hX]; (repeat (with_reducible refine And.intro ?_ ?_); exact vc0); refine hK _ ?_; clear hK K; refine Run.nq ?_
    refine Run.nq ?_; refine Run.regionW hC (fun K hK => ?_); simp only [AW7, simprocAttr, hX]; (repeat (with_reducible refine And.intro ?_ ?_); exact vc0); refine hK _ ?_; clear hK K; refine Run.nq ?_
    refine Run.nq ?_; refine Run.condW (by simp only [AW7, simprocAttr, hX]; rfl) (by simp only [AW7, simprocAttr, hX]) ?_ ?_
    · intro h4
      have h4 : j = 0 := by
        have h4 : (j : Int) = 0 := by simpa using h4
        omega
      subst h4
      refine Run.nq ?_; refine Run.regionW hC (fun K hK => ?_); simp only [AW7, simprocAttr, hX]; (repeat (with_reducible refine And.intro ?_ ?_); exact vc0); refine hK _ ?_; clear hK K; refine Run.nq ?_
      refine Run.reK hpin [0, 7, 8, 9, 10, 11] [0, 1] (by decide) (by simp) ?_; simp only [AR, AW7, simprocAttr]
      refine Run.nq ?_; refine Run.regionW hC (fun K hK => ?_); simp (disch := omega) only [wrap_id, AW7, simprocAttr, hX]; (repeat (with_reducible refine And.intro ?_ ?_); exact vc0); refine hK _ ?_; clear hK K; refine Run.nq ?_
      have hx0 : 0 < xs.length := by omega
      have hn : ∀ m, m < 1 → ((xs.set 0 (0 - pS c (rw2 ys) 0 0 * e0)).set 0 1).getD m 0 = eps ((rw2 ys).getD m []) * e0 := fun m hm => by
        have : m = 0 := by omega
        subst this
        rw [hE0, List.getD_eq_getElem?_getD]
        rcases he0 with e | e <;> simp [e, hx0]
      refine Run.le ?_ (ihO (((xs.set 0 (0 - pS c (rw2 ys) 0 0 * e0)).set 0 1, 1)) (⟨h2, by simp [hxl], hn⟩) (by (try simp only [List.length_append, List.length_cons, List.length_nil]); omega))
      exact Le.sub (by rfl) (by simp only [AW7, simprocAttr]; try simp)
    intro h4
    have h4 : 0 < j := by
      have h4 : ¬ (j : Int) = 0 := by simpa using h4
      omega
    have hs := hsum j (by rw [rwl]; omega) h4
    refine Run.reK hpin [0, 7, 8, 9, 10, 11] [0, 1] (by decide) (by simp) ?_; simp only [AR, AW7, simprocAttr]
    refine Run.nq ?_; refine Run.regionW hC (fun K hK => ?_); simp (disch := omega) only [wrap_id, AW7, simprocAttr, hX]; (repeat (with_reducible refine And.intro ?_ ?_); exact vc0); refine hK _ ?_; clear hK K; refine Run.nq ?_
    have hn : ∀ m, m < j + 1 → (xs.set j (0 - pS c (rw2 ys) j j * e0)).getD m 0 = eps ((rw2 ys).getD m []) * e0 := fun m hm => by
      by_cases e : m = j
      · subst e
        rw [List.getD_eq_getElem?_getD, List.getElem?_set_self (by omega), hs]
        simp only [Option.getD_some, Int.neg_mul, Int.sub_neg, Int.zero_add]
      · rw [List.getD_eq_getElem?_getD, List.getElem?_set_ne (Ne.symm e), ← List.getD_eq_getElem?_getD]
        exact hxs m (by omega)
    refine Run.le ?_ (ihO ((xs.set j (0 - pS c (rw2 ys) j j * e0), j + 1)) (⟨h2, by simp [hxl], hn⟩) (by (try simp only [List.length_append, List.length_cons, List.length_nil]); omega))
    exact Le.sub (by rfl) (by simp only [AW7, simprocAttr]; try simp)
  intro h3
  have h3 : j < i := by rw [decide_eq_true_eq] at h3; omega
  have hyj := hnf j (by omega)
  have hgj := rwg ys j
  have hss := pS_succ c (rw2 ys) i j
  have hxj := hxs j h3
  have hb1 := hnb i (j + 1)
  have hl15 : l15 c ((rw2 ys).getD j []) ((rw2 ys).getD i []) = belB c (imageL c ((rw2 ys).getD j [])) ((rw2 ys).getD i []) := l15_bel hcc _ hyi.1.1 (hyj.1.red hcc) (by omega)
  refine Run.nq ?_; refine Run.regionD hC true [0,1,2,3,4,5,6,7,8,9] (by kernel_rfl) (fun K hK => ?_); simp only [AW7, simprocAttr, hX]; (repeat (with_reducible refine And.intro ?_ ?_); exact vc0)
  simp only [Int.toNat_natCast, hgi, hgj]
  refine FunA.callD hP hT (c_spec_l15Below c hcc ((rw2 ys).getD i []) ((rw2 ys).getD j []) hyi.1.1 (hyj.1.red hcc) (by omega) (by omega)) (by simp only [AW7, simprocAttr]) ?_
  rintro rs o ⟨rfl, rfl⟩
  (try simp only [AW7, simprocAttr, hX]); (repeat (with_reducible refine And.intro ?_ ?_); exact vc0)
  (repeat (with_reducible refine And.intro ?_ ?_); exact vc0); refine hK _ ?_; clear hK K; refine Run.nq ?_
  rw [hl15]
  refine Run.nq ?_; refine Run.condW (by simp only [AW7, simprocAttr, hX]; rfl) (by simp only [AW7, simprocAttr, hX]) ?_ ?_
  · intro h4
    have h4 : belB c (imageL c ((rw2 ys).getD j [])) ((rw2 ys).getD i []) = true := h4
    rw [if_pos h4] at hss
    have e3 : pS c (rw2 ys) i j * e0 + xs.getD j 0 = pS c (rw2 ys) i (j + 1) * e0 := by rw [hss, hxj, Int.add_mul]
    refine Run.nq ?_; refine Run.regionW hC (fun K hK => ?_); simp (disch := omega) only [wrap_id, AW7, simprocAttr, hX]; (repeat (with_reducible refine And.intro ?_ ?_); exact vc0); refine hK _ ?_; clear hK K; refine Run.nq ?_
    rw [e3]
    refine Run.reK hpin [0, 7, 8, 9, 10, 11, 12, 13] [0, 1] (by decide) (by simp) ?_; simp only [AR, AW7, simprocAttr]
    refine Run.nq ?_; refine Run.regionW hC (fun K hK => ?_); simp (disch := omega) only [wrap_id, AW7, simprocAttr, hX]; (repeat (with_reducible refine And.intro ?_ ?_); exact vc0); refine hK _ ?_; clear hK K; refine Run.nq ?_
    refine Run.le ?_ (ih ((j + 1, pS c (rw2 ys) i (j + 1) * e0)) (⟨h3, rfl⟩) (by (try simp only [List.length_append, List.length_cons, List.length_nil]); omega))
    exact Le.sub (by rfl) (by simp only [AW7, simprocAttr]; try simp)
  intro h4
  have h4 : ¬ belB c (imageL c ((rw2 ys).getD j [])) ((rw2 ys).getD i []) = true := by
    have h4 : belB c (imageL c ((rw2 ys).getD j [])) ((rw2 ys).getD i []) = false := h4
    rw [h4]; simp
  rw [if_neg h4] at hss
  refine Run.reK hpin [0, 7, 8, 9, 10, 11, 12, 13] [0, 1] (by decide) (by simp) ?_; simp only [AR, AW7, simprocAttr]
  refine Run.nq ?_; refine Run.regionW hC (fun K hK => ?_); simp (disch := omega) only [wrap_id, AW7, simprocAttr, hX]; (repeat (with_reducible refine And.intro ?_ ?_); exact vc0); refine hK _ ?_; clear hK K; refine Run.nq ?_
  refine Run.le ?_ (ih ((j + 1, pS c (rw2 ys) i j * e0)) (⟨h3, by simp only [hss]⟩) (by (try simp only [List.length_append, List.length_cons, List.length_nil]); omega))
  exact Le.sub (by rfl) (by simp only [AW7, simprocAttr]; try simp)
end Go.Proofs.Ytdhfonblpbpmmaa

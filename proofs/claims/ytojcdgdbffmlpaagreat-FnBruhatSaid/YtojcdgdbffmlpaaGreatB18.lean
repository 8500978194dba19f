/- The Moebius function of the Bruhat order, on both sides. -/
import Derived.Test.YtojcdgdbffmlpaaGreatB17
import Derived.Test.YtojcdgdbffmlpaaGreatB16
import Derived.Test.YtojcdgdbffmlpaaGreatB14
import Derived.Test.YtojcdgdbffmlpaaGreatB15
set_option linter.unusedVariables false
set_option linter.unusedSimpArgs false
namespace Go.Proofs.YtojcdgdbffmlpaaGreat
open Go Go.Aw Go.Cox
theorem eps_red {c : List (List Int)} {w : List Int} (h : wordB c w = true) : eps (redL c w) = eps w := by
  obtain ⟨hc, h2, h3⟩ := wordB_iff.1 h
  have := (red_spec hc h3 (by omega)).2.2.1
  unfold eps
  rw [this]
theorem lowB_word {c : List (List Int)} {w : List Int} (h : lowB c w = true) : wordB c w = true := by
  revert h; unfold lowB; cases wordB c w <;> simp
theorem lowX_iff {c : List (List Int)} {w : List Int} (h : lowB c w = true) (z : List Int) : z ∈ lowX c w ↔ Low c (redL c w) z := by
  have hw := lowB_word h
  unfold lowX
  rw [hw, if_pos rfl]
  refine fewL_iff' ?_ z
  revert h; unfold lowB; rw [hw]; simp
where
  fewL_iff' {R : List Int → Prop} (h : fewB R = true) (z : List Int) : z ∈ fewL R ↔ R z := by
    have h : FewP R := by simpa [fewB] using h
    unfold fewL
    rw [dif_pos h, (srt_spec _).2]
    exact h.choose_spec.2.1 z
theorem lowX_strict (c : List (List Int)) (w : List Int) : StrictW (lowX c w) := by
  unfold lowX
  split
  · unfold fewL
    split
    · exact (srt_spec _).1
    · exact StrictW.nil
  · exact StrictW.nil
theorem itvX_strict (c : List (List Int)) (u v : List Int) : StrictW (itvX c u v) := by
  unfold itvX
  split
  · exact List.Pairwise.filter _ (lowX_strict c v)
  · exact StrictW.nil
theorem itvX_iff {c : List (List Int)} {u v : List Int} (h : itvB c u v = true) (z : List Int) : z ∈ itvX c u v ↔ Low c (redL c v) z ∧ SubI c z (imageL c (redL c u)) := by
  have hl : lowB c v = true := by revert h; unfold itvB; cases lowB c v <;> simp
  have hu : wordB c u = true := by revert h; unfold itvB; cases wordB c u <;> simp
  obtain ⟨hc, u2, u3⟩ := wordB_iff.1 hu
  obtain ⟨a1, a2, a3, a4, a5⟩ := red_spec hc u3 (by omega)
  unfold itvX
  rw [h, if_pos rfl, List.mem_filter, lowX_iff hl]
  refine and_congr_right fun hz => ?_
  have hz2 := lowX_rows c v z ((lowX_iff hl z).2 hz)
  have hwz : wordB c z = true := wordB_iff.2 ⟨hc, hz2, hz.1.1⟩
  have : brB c u z = belB c (imageL c u) z := by simp [brB, hu, hwz, hz.1.2.1]
  rw [this, a4]
  exact bel_sub hc z hz.1.1 a5
theorem strict_len2 {L : List (List Int)} (h : StrictW L) : ∀ {i j : Nat}, i ≤ j → j < L.length → (L.getD i []).length ≤ (L.getD j []).length := by
  intro i j hij hj
  by_cases e : i = j
  · rw [e]; exact Nat.le_refl _
  have hi : i < L.length := by omega
  have := List.pairwise_iff_getElem.1 h i j hi hj (by omega)
  rw [getD_eq hi, getD_eq hj]
  refine Classical.byContradiction fun hn => ?_
  revert this
  unfold cmpW
  rw [if_neg (by omega), if_pos (by omega)]
  exact fun e => absurd e (by decide)
theorem Low.short {c : List (List Int)} (hc : CartanP c) {y z : List Int} (hy : Nf c y) (h : Low c y z) (hne : z ≠ y) : z.length < y.length := by
  obtain ⟨k, hk, hR, hS⟩ := sub_chain hc (hy.red hc) hy.2.2 h.2 (fun e => hne (nf_same h.1 hy e))
  have := Low.len hc hR.1 ⟨h.1, hS⟩
  have := delA_len hk
  omega
def pS (c : List (List Int)) (L : List (List Int)) (i k : Nat) : Int := (((List.range k).filter fun m => belB c (imageL c (L.getD m [])) (L.getD i [])).map fun m => eps (L.getD m [])).sum
theorem pS_succ (c : List (List Int)) (L : List (List Int)) (i k : Nat) : pS c L i (k + 1) = if belB c (imageL c (L.getD k [])) (L.getD i []) = true then pS c L i k + eps (L.getD k []) else pS c L i k := by
  unfold pS
  rw [List.range_succ, List.filter_append, List.map_append, List.sum_append]
  by_cases h : belB c (imageL c (L.getD k [])) (L.getD i []) = true
  · rw [if_pos h]
    congr 1
    have : List.filter (fun m => belB c (imageL c (L.getD m [])) (L.getD i [])) [k] = [k] := by rw [List.filter_cons, if_pos h]; rfl
    rw [this]; simp
  · rw [if_neg h]
    have : List.filter (fun m => belB c (imageL c (L.getD m [])) (L.getD i [])) [k] = [] := by rw [List.filter_cons, if_neg h]; rfl
    rw [this]; simp
theorem pS_bound (c : List (List Int)) (L : List (List Int)) (i : Nat) : ∀ k : Nat, -((k : Nat) : Int) ≤ pS c L i k ∧ pS c L i k ≤ ((k : Nat) : Int)
  | 0 => by simp [pS]
  | k + 1 => by
    have := pS_bound c L i k
    rw [pS_succ]
    have he := eps_cases (L.getD k [])
    split
    · rcases he with h | h <;> rw [h] <;> omega
    · omega
theorem itv_ends {c : List (List Int)} {u v : List Int} (h : itvB c u v = true) (hne : 0 < (itvX c u v).length) : (itvX c u v).getD 0 [] = redL c u ∧ (itvX c u v).getD ((itvX c u v).length - 1) [] = redL c v := by
  have hl : lowB c v = true := by revert h; unfold itvB; cases lowB c v <;> simp
  have hu : wordB c u = true := by revert h; unfold itvB; cases wordB c u <;> simp
  have hv := lowB_word hl
  have hc := (wordB_iff.1 hu).1
  obtain ⟨nu, lu⟩ := word_nf hu
  obtain ⟨nv, lv⟩ := word_nf hv
  have mem := itvX_iff h
  have hS := itvX_strict c u v
  generalize itvX c u v = L at *
  have get : ∀ i, i < L.length → L.getD i [] ∈ L := fun i hi => by rw [getD_eq hi]; exact List.getElem_mem hi
  obtain ⟨p1, p2⟩ := (mem _).1 (get 0 hne)
  have hux : SubI c (redL c v) (imageL c (redL c u)) := (p1.trans hc ⟨nu, p2⟩ nv.1).2
  have hu0 : redL c u ∈ L := (mem _).2 ⟨⟨nu, hux⟩, SubI.self c _⟩
  have hv0 : redL c v ∈ L := (mem _).2 ⟨Low.self nv, hux⟩
  constructor
  · refine Classical.byContradiction fun hne2 => ?_
    have h1 : (redL c u).length < (L.getD 0 []).length := Low.short hc p1.1 ⟨nu, p2⟩ (fun e => hne2 e.symm)
    obtain ⟨j, hj, e⟩ := List.getElem_of_mem hu0
    have := strict_len2 hS (Nat.zero_le j) hj
    rw [getD_eq hj, e] at this
    omega
  · refine Classical.byContradiction fun hne2 => ?_
    obtain ⟨q1, q2⟩ := (mem _).1 (get (L.length - 1) (by omega))
    have h1 := Low.short hc nv q1 hne2
    obtain ⟨j, hj, e⟩ := List.getElem_of_mem hv0
    have := strict_len2 hS (by omega : j ≤ L.length - 1) (by omega)
    rw [getD_eq hj, e] at this
    omega
theorem moe_sum {c : List (List Int)} {u v : List Int} (h : itvB c u v = true) {i : Nat} (hi : i < (itvX c u v).length) (hi0 : 0 < i) : pS c (itvX c u v) i i = - eps ((itvX c u v).getD i []) := by
  have hl : lowB c v = true := by revert h; unfold itvB; cases lowB c v <;> simp
  have hu : wordB c u = true := by revert h; unfold itvB; cases wordB c u <;> simp
  have hv := lowB_word hl
  have hc := (wordB_iff.1 hu).1
  obtain ⟨nu, lu⟩ := word_nf hu
  obtain ⟨nv, lv⟩ := word_nf hv
  have h0 := (itv_ends h (by omega)).1
  have mem := itvX_iff h
  have hS := itvX_strict c u v
  generalize itvX c u v = L at *
  have get : ∀ i, i < L.length → L.getD i [] ∈ L := fun i hi => by rw [getD_eq hi]; exact List.getElem_mem hi
  have inj : ∀ i j, i < L.length → j < L.length → L.getD i [] = L.getD j [] → i = j := fun i j hi hj e => by
    rw [getD_eq hi, getD_eq hj] at e
    exact (List.getElem_inj (strict_nodup hS)).1 e
  obtain ⟨q1, q2⟩ := (mem _).1 (get i hi)
  have hyl := q1.len hc nv.1
  have hV := verma hc _ (redL c u) (L.getD i []) rfl (by omega) nu q1.1 q2 (fun e => by
    rw [← h0] at e
    have := inj 0 i (by omega) hi e
    omega)
  have hA : sumE ((((List.range i).filter fun m => belB c (imageL c (L.getD m [])) (L.getD i [])).map fun m => L.getD m []) ++ [L.getD i []]) = sumE (btwL c (redL c u) (L.getD i [])) := by
    refine sum_same ?_ (btwL_nodup ..) fun z => ?_
    · rw [List.nodup_append]
      refine ⟨?_, by simp, fun a ha b hb e => ?_⟩
      · refine List.pairwise_map.2 (List.Pairwise.imp_of_mem (R := fun a b => a ≠ b) (fun {a b} ha hb hne e => hne ?_) (List.Pairwise.filter _ List.nodup_range))
        have ha := List.mem_range.1 (List.mem_filter.1 ha).1
        have hb := List.mem_range.1 (List.mem_filter.1 hb).1
        exact inj a b (by omega) (by omega) e
      · obtain ⟨m, hm, rfl⟩ := List.mem_map.1 ha
        have hm := List.mem_range.1 (List.mem_filter.1 hm).1
        have hb : b = L.getD i [] := by simpa using hb
        rw [hb] at e
        have := inj m i (by omega) hi e
        omega
    · rw [btwL_mem hc q1.1.1 (by omega), List.mem_append, List.mem_map]
      constructor
      · rintro (⟨m, hm, rfl⟩ | hz)
        · obtain ⟨h1, h2⟩ := List.mem_filter.1 hm
          have h1 := List.mem_range.1 h1
          obtain ⟨r1, r2⟩ := (mem _).1 (get m (by omega))
          exact ⟨⟨r1.1, (bel_sub hc _ q1.1.1 (r1.1.far hc)).1 h2⟩, r2⟩
        · have hz : z = L.getD i [] := by simpa using hz
          rw [hz]
          exact ⟨Low.self q1.1, q2⟩
      · rintro ⟨r1, r2⟩
        by_cases hz : z = L.getD i []
        · right; rw [hz]; simp
        · left
          have hzL : z ∈ L := (mem z).2 ⟨q1.trans hc r1 nv.1, r2⟩
          obtain ⟨m, hm, e⟩ := List.getElem_of_mem hzL
          have hsh := Low.short hc q1.1 r1 hz
          have hmi : m < i := by
            refine Classical.byContradiction fun hn => ?_
            have := strict_len2 hS (by omega : i ≤ m) hm
            rw [getD_eq hm, e] at this
            omega
          refine ⟨m, List.mem_filter.2 ⟨List.mem_range.2 hmi, ?_⟩, by rw [getD_eq hm]; exact e⟩
          rw [getD_eq hm, e]
          exact (bel_sub hc _ q1.1.1 (r1.1.far hc)).2 r1.2
  rw [hV] at hA
  have hsum : sumE ((((List.range i).filter fun m => belB c (imageL c (L.getD m [])) (L.getD i [])).map fun m => L.getD m []) ++ [L.getD i []]) = pS c L i i + eps (L.getD i []) := by
    unfold sumE pS
    rw [List.map_append, List.sum_append, List.map_map]
    simp [Function.comp_def]
  rw [hsum] at hA
  omega
noncomputable def moZ (c : List (List Int)) (u v : List Int) : Int := if 0 < (itvX c u v).length then eps u * eps v else 0
theorem moZ_last {c : List (List Int)} {u v : List Int} (h : itvB c u v = true) (hne : 0 < (itvX c u v).length) : moZ c u v = eps ((itvX c u v).getD ((itvX c u v).length - 1) []) * eps ((itvX c u v).getD 0 []) := by
  have hl : lowB c v = true := by revert h; unfold itvB; cases lowB c v <;> simp
  have hu : wordB c u = true := by revert h; unfold itvB; cases wordB c u <;> simp
  obtain ⟨e1, e2⟩ := itv_ends h hne
  unfold moZ
  rw [if_pos hne, e1, e2, eps_red hu, eps_red (lowB_word hl), Int.mul_comm]
theorem itvX_off {c : List (List Int)} {u v : List Int} (h : itvB c u v = false) : itvX c u v = [] := by unfold itvX; rw [h]; rfl
theorem c_impl_SignOf (w : List Int) : FunA B 119 [.sl false .int w] (fun rs o => rs = [.int .i64 (eps w)] ∧ o = []) := by
  have e : ((w.length : Int).tmod 2 == 0) = decide (w.length % 2 = 0) := by
    have h : (w.length : Int).tmod 2 = ((w.length % 2 : Nat) : Int) := rfl
    rw [h]
    rcases Nat.mod_two_eq_zero_or_one w.length with h | h <;> rw [h] <;> rfl
  refine FunA.walk B_ok (fn := Tryz.f119) (fun vs w => Tryz.call119 vs w) Tryz.func119 rfl (by rw [Tryz.ntmps119]; simp) (fun C hC hP hT hΓ hbt hfn hpin hfin => ?_); have hX := BX; rw [← hΓ, ← hbt.1, ← hbt.2] at hX; rw [Tryz.ntmps119]; simp only [AW7, simprocAttr, hX]
  refine Run.nq ?_; refine Run.regionW hC (fun K hK => ?_); simp only [AW7, simprocAttr, hX]; (repeat (with_reducible refine And.intro ?_ ?_); exact vc0); refine hK _ ?_; clear hK K; refine Run.nq ?_
  refine Run.nq ?_; refine Run.regionW hC (fun K hK => ?_); simp only [AW7, simprocAttr, hX]; (repeat (with_reducible refine And.intro ?_ ?_); exact vc0); refine hK _ ?_; clear hK K; refine Run.nq ?_
  rw [e]
  refine Run.nq ?_; refine Run.condW (by simp only [AW7, simprocAttr, hX]; rfl) (by simp only [AW7, simprocAttr, hX]) ?_ ?_
  · intro h
    have h : w.length % 2 = 0 := by simpa using h
    refine Run.nq ?_; refine Run.regionW hC (fun K hK => ?_); simp only [AW7, simprocAttr, hX]; (repeat (with_reducible refine And.intro ?_ ?_); exact vc0); refine hK _ ?_; clear hK K; refine Run.nq ?_
    refine Run.retW [2] (by decide) (by rw [hfn]; rfl) (by simp only [AW7, simprocAttr, hX]; rfl) (by simp only [AW7, simprocAttr, hX]) (hfin _ _ rfl rfl ?_)
    simp [eps, h]
  intro h
  have h : ¬ w.length % 2 = 0 := by simpa using h
  refine Run.nq ?_; refine Run.regionW hC (fun K hK => ?_); simp only [AW7, simprocAttr, hX]; (repeat (with_reducible refine And.intro ?_ ?_); exact vc0); refine hK _ ?_; clear hK K; refine Run.nq ?_
  refine Run.retW [2] (by decide) (by rw [hfn]; rfl) (by simp only [AW7, simprocAttr, hX]; rfl) (by simp only [AW7, simprocAttr, hX]) (hfin _ _ rfl rfl ?_)
  simp [eps, h]
theorem c_impl_MoebiusOf (c : List (List Int)) (u v : List Int) (hcl : c.length ≤ 1048576) :
    FunA B 21 [.sl false (.row false) c, .sl false .int u, .sl false .int v] (fun rs o => rs = [.int .i64 (moZ c u v), .bool (itvB c u v)] ∧ o = []) := by
  refine FunA.walk B_ok (fn := Tryz.f21) (fun vs w => Tryz.call21 vs w) Tryz.func21 rfl (by rw [Tryz.ntmps21]; simp) (fun C hC hP hT hΓ hbt hfn hpin hfin => ?_); have hX := BX; rw [← hΓ, ← hbt.1, ← hbt.2] at hX; rw [Tryz.ntmps21]; simp only [AW7, simprocAttr, hX]
  refine Run.nq ?_; refine Run.regionW hC (fun K hK => ?_); simp only [AW7, simprocAttr, hX]; (repeat (with_reducible refine And.intro ?_ ?_); exact vc0); refine hK _ ?_; clear hK K; refine Run.nq ?_
  refine Run.nq ?_; refine Run.regionW hC (fun K hK => ?_); simp only [AW7, simprocAttr, hX]; (repeat (with_reducible refine And.intro ?_ ?_); exact vc0)
  refine FunA.callW hP hT (c_impl_IntervalOfR c u v hcl) (by simp only [AW7, simprocAttr]) ?_
  rintro rs o ⟨ys, g, nn, rest, ⟨hys, rfl, rfl⟩, hnd, _, rfl, rfl⟩
  (try simp only [AW7, simprocAttr, hX]); (repeat (with_reducible refine And.intro ?_ ?_); exact vc0)
  (repeat (with_reducible refine And.intro ?_ ?_); exact vc0); refine hK _ ?_; clear hK K; refine Run.nq ?_
  have hyl : ys.length = (itvX c u v).length := by rw [← hys, rwl]
  refine Run.nq ?_; refine Run.regionW hC (fun K hK => ?_); simp only [AW7, simprocAttr, hX]; (repeat (with_reducible refine And.intro ?_ ?_); exact vc0); refine hK _ ?_; clear hK K; refine Run.nq ?_
  refine Run.nq ?_; refine Run.condW (by simp only [AW7, simprocAttr, hX]; rfl) (by simp only [AW7, simprocAttr, hX]) ?_ ?_
  · intro h
    have h : itvB c u v = false := by simpa using h
    refine Run.nq ?_; refine Run.regionW hC (fun K hK => ?_); simp only [AW7, simprocAttr, hX]; (repeat (with_reducible refine And.intro ?_ ?_); exact vc0); refine hK _ ?_; clear hK K; refine Run.nq ?_
    refine Run.reK hpin [6, 7] [] (by decide) (by simp) ?_; simp only [AR, AW7, simprocAttr]
    refine Run.retW [6, 7] (by decide) (by rw [hfn]; rfl) (by simp only [AW7, simprocAttr, hX]; rfl) (by simp only [AW7, simprocAttr, hX]) (hfin _ _ rfl rfl ?_)
    simp [moZ, itvX_off h, h]
  intro h
  have h : itvB c u v = true := by simpa using h
  refine Run.nq ?_; refine Run.regionW hC (fun K hK => ?_); simp only [AW7, simprocAttr, hX]; (repeat (with_reducible refine And.intro ?_ ?_); exact vc0); refine hK _ ?_; clear hK K; refine Run.nq ?_
  refine Run.nq ?_; refine Run.condW (by simp only [AW7, simprocAttr, hX]; rfl) (by simp only [AW7, simprocAttr, hX]) ?_ ?_
  · intro h2
    have h2 : ¬ 0 < (itvX c u v).length := by
      have h2 : (ys.length : Int) = 0 := by simpa using h2
      omega
    refine Run.nq ?_; refine Run.regionW hC (fun K hK => ?_); simp only [AW7, simprocAttr, hX]; (repeat (with_reducible refine And.intro ?_ ?_); exact vc0); refine hK _ ?_; clear hK K; refine Run.nq ?_
    refine Run.reK hpin [6, 7] [] (by decide) (by simp) ?_; simp only [AR, AW7, simprocAttr]
    refine Run.retW [6, 7] (by decide) (by rw [hfn]; rfl) (by simp only [AW7, simprocAttr, hX]; rfl) (by simp only [AW7, simprocAttr, hX]) (hfin _ _ rfl rfl ?_)
    simp only [moZ, if_neg h2, h, and_true]
  intro h2
  have h2 : 0 < (itvX c u v).length := by
    have h2 : ¬ (ys.length : Int) = 0 := by simpa using h2
    omega
  have hb : -1 ≤ eps u * eps v ∧ eps u * eps v ≤ 1 := by
    rcases eps_cases u with e1 | e1 <;> rcases eps_cases v with e2 | e2 <;> rw [e1, e2] <;> decide
  refine Run.nq ?_; refine Run.regionW hC (fun K hK => ?_); simp only [AW7, simprocAttr, hX]; (repeat (with_reducible refine And.intro ?_ ?_); exact vc0)
  refine FunA.callW hP hT (c_impl_SignOf u) (by simp only [AW7, simprocAttr]) ?_
  rintro rs o ⟨rfl, rfl⟩
  (try simp only [AW7, simprocAttr, hX]); (repeat (with_reducible refine And.intro ?_ ?_); exact vc0)
  refine FunA.callW hP hT (c_impl_SignOf v) (by simp only [AW7, simprocAttr]) ?_
  rintro rs o ⟨rfl, rfl⟩
  simp (disch := omega) only [wrap_id, AW7, simprocAttr, hX]; (repeat (with_reducible refine And.intro ?_ ?_); exact vc0)
  (repeat (with_reducible refine And.intro ?_ ?_); exact vc0); refine hK _ ?_; clear hK K; refine Run.nq ?_
  refine Run.reK hpin [6, 7] [] (by decide) (by simp) ?_; simp only [AR, AW7, simprocAttr]
  refine Run.retW [6, 7] (by decide) (by rw [hfn]; rfl) (by simp only [AW7, simprocAttr, hX]; rfl) (by simp only [AW7, simprocAttr, hX]) (hfin _ _ rfl rfl ?_)
  simp only [moZ, if_pos h2, h, and_true]
set_option maxHeartbeats 1000000 in
theorem c_spec_MoebiusOf (c : List (List Int)) (u v : List Int) (hcl : c.length ≤ 1048576) :
    FunA B 22 [.sl false (.row false) c, .sl false .int u, .sl false .int v] (fun rs o => rs = [.int .i64 (moZ c u v), .bool (itvB c u v)] ∧ o = []) := by
  refine FunA.walk B_ok (fn := Tryz.f22) (fun vs w => Tryz.call22 vs w) Tryz.func22 rfl (by rw [Tryz.ntmps22]; simp) (fun C hC hP hT hΓ hbt hfn hpin hfin => ?_); have hX := BX; rw [← hΓ, ← hbt.1, ← hbt.2] at hX; rw [Tryz.ntmps22]; simp only [AW7, simprocAttr, hX]
  refine Run.nq ?_; refine Run.regionW hC (fun K hK => ?_); simp only [AW7, simprocAttr, hX]; (repeat (with_reducible refine And.intro ?_ ?_); exact vc0); refine hK _ ?_; clear hK K; refine Run.nq ?_
  refine Run.nq ?_; refine Run.regionW hC (fun K hK => ?_); simp only [AW7, simprocAttr, hX]; (repeat (with_reducible refine And.intro ?_ ?_); exact vc0)
  refine FunA.callW hP hT (c_spec_IntervalOfR c u v hcl) (by simp only [AW7, simprocAttr]) ?_
  rintro rs o ⟨ys, g, nn, rest, ⟨hys, rfl, rfl⟩, hnd, _, rfl, rfl⟩
  (try simp only [AW7, simprocAttr, hX]); (repeat (with_reducible refine And.intro ?_ ?_); exact vc0)
  (repeat (with_reducible refine And.intro ?_ ?_); exact vc0); refine hK _ ?_; clear hK K; refine Run.nq ?_
  have hyl : ys.length = (itvX c u v).length := by rw [← hys, rwl]
  refine Run.nq ?_; refine Run.regionW hC (fun K hK => ?_); simp only [AW7, simprocAttr, hX]; (repeat (with_reducible refine And.intro ?_ ?_); exact vc0); refine hK _ ?_; clear hK K; refine Run.nq ?_
  refine Run.nq ?_; refine Run.condW (by simp only [AW7, simprocAttr, hX]; rfl) (by simp only [AW7, simprocAttr, hX]) ?_ ?_
  · intro h
    have h3 : moZ c u v = 0 := by
      unfold moZ
      rw [if_neg ?_]
      cases hb : itvB c u v with
      | false => rw [itvX_off hb]; simp
      | true =>
        rw [hb] at h
        have h : (ys.length : Int) = 0 := by simpa using h
        omega
    refine Run.nq ?_; refine Run.regionW hC (fun K hK => ?_); simp only [AW7, simprocAttr, hX]; (repeat (with_reducible refine And.intro ?_ ?_); exact vc0); refine hK _ ?_; clear hK K; refine Run.nq ?_
    refine Run.reK hpin [6, 7] [] (by decide) (by simp) ?_; simp only [AR, AW7, simprocAttr]
    refine Run.retW [6, 7] (by decide) (by rw [hfn]; rfl) (by simp only [AW7, simprocAttr, hX]; rfl) (by simp only [AW7, simprocAttr, hX]) (hfin _ _ rfl rfl ?_)
    rw [h3]
    exact ⟨rfl, rfl⟩
  intro h
  have hI : itvB c u v = true := by
    cases hb : itvB c u v with
    | true => rfl
    | false => rw [hb] at h; simp at h
  have hne : 0 < ys.length := by
    rw [hI] at h
    have h : ¬ (ys.length : Int) = 0 := by simpa using h
    omega
  have hle := itvX_len c u v
  have hlast := moZ_last hI (by omega)
  have hsum := fun i => moe_sum (i := i) hI
  have mem := fun z => itvX_iff hI z
  have hrows := itvX_rows c u v
  rw [← hys] at hlast hsum mem hrows
  have hcc : CartanP c := by
    have hu : wordB c u = true := by revert hI; unfold itvB; cases wordB c u <;> simp
    exact (wordB_iff.1 hu).1
  have hnf : ∀ k, k < ys.length → Nf c ((rw2 ys).getD k []) ∧ ((rw2 ys).getD k []).length ≤ 15 := fun k hk => by
    have hm : (rw2 ys).getD k [] ∈ rw2 ys := by rw [← rwg]; exact mem_rw2 hk
    exact ⟨((mem _).1 hm).1.1, hrows _ hm⟩
  generalize hE0 : eps ((rw2 ys).getD 0 []) = e0 at *
  have he0 : e0 = 1 ∨ e0 = -1 := by rw [← hE0]; exact eps_cases _
  have hpb := fun i k => pS_bound c (rw2 ys) i k
  have hnb : ∀ i k : Nat, -(k : Int) ≤ pS c (rw2 ys) i k * e0 ∧ pS c (rw2 ys) i k * e0 ≤ k := fun i k => by
    have := hpb i k
    rcases he0 with e | e <;> rw [e] <;> omega
  refine Run.nq ?_; refine Run.regionW hC (fun K hK => ?_); simp only [AW7, simprocAttr, hX]; (repeat (with_reducible refine And.intro ?_ ?_); exact vc0); refine hK _ ?_; clear hK K; refine Run.nq ?_
  refine Run.nq ?_; refine Run.regionW hC (fun K hK => ?_); simp only [AW7, simprocAttr, hX]; (repeat (with_reducible refine And.intro ?_ ?_); exact vc0); refine hK _ ?_; clear hK K; refine Run.nq ?_
  refine Run.reK hpin [0, 7, 8, 9, 10, 11] [0, 1] (by decide) (by simp) ?_; simp only [AR, AW7, simprocAttr]
  refine Run.loopI (X := List Int × Nat) (fun s => ⟨75, [(0, true, .v (.sl false (.row false) (c))), (7, true, .v (.bool (false))), (8, true, .v (.own 0 0)), (9, true, .v (.bool ((itvB c u v)))), (10, true, .v (.own 1 0)), (11, true, .v (.int .i64 (s.2)))], [.arr .lrow (ys) 0 true, .arr .int (s.1) 0 true]⟩) (fun s => s.2 ≤ ys.length ∧ s.1.length = ys.length ∧ ∀ m, m < s.2 → s.1.getD m 0 = eps ((rw2 ys).getD m []) * e0) (fun s => ys.length - s.2) ((List.replicate ys.length 0, 0)) (⟨Nat.zero_le _, by simp, fun m hm => absurd hm (Nat.not_lt_zero _)⟩) ?_ ?_
  · exact Le.sub (by first | rfl | simp) (by simp only [AW7, simprocAttr, hX]; try simp <;> try (first | rfl | exact ⟨rfl, rfl⟩ | exact ⟨rfl, rfl, rfl⟩))
  rintro ⟨xs, i⟩ ⟨hi, hxl, hxs⟩ ihO
  try simp only []
  simp only [] at hi hxl hxs
  refine Run.nq ?_; refine Run.regionW hC (fun K hK => ?_); simp only [AW7, simprocAttr, hX]; (repeat (with_reducible refine And.intro ?_ ?_); exact vc0); refine hK _ ?_; clear hK K; refine Run.nq ?_
  refine Run.nq ?_; refine Run.condW (by simp only [AW7, simprocAttr, hX]; rfl) (by simp only [AW7, simprocAttr, hX]) ?_ ?_
  rotate_left
  · intro h2
    have h2 : i = ys.length := by rw [decide_eq_false_iff_not] at h2; omega
    refine Run.exit rfl ?_; refine Run.nq ?_
    refine Run.nq ?_; refine Run.regionW hC (fun K hK => ?_); simp (disch := omega) only [wrap_id, AW7, simprocAttr, hX]; (repeat (with_reducible refine And.intro ?_ ?_); exact vc0); refine hK _ ?_; clear hK K; refine Run.nq ?_
    refine Run.reK hpin [6, 7] [] (by decide) (by simp) ?_; simp only [AR, AW7, simprocAttr]
    refine Run.retW [6, 7] (by decide) (by rw [hfn]; rfl) (by simp only [AW7, simprocAttr, hX]; rfl) (by simp only [AW7, simprocAttr, hX]) (hfin _ _ rfl rfl ?_)
    have e1 : ((ys.length : Int) - 1).toNat = ys.length - 1 := by omega
    rw [hlast, hI, e1, hxs _ (by omega), ← rwl]
    exact ⟨rfl, rfl⟩
  intro h2
  have h2 : i < ys.length := by rw [decide_eq_true_eq] at h2; omega
  have hyi := hnf i h2
  have hgi := rwg ys i
  refine Run.nq ?_; refine Run.regionW hC (fun K hK => ?_); simp only [AW7, simprocAttr, hX]; (repeat (with_reducible refine And.intro ?_ ?_); exact vc0); refine hK _ ?_; clear hK K; refine Run.nq ?_
  refine Run.nq ?_; refine Run.regionW hC (fun K hK => ?_); simp only [AW7, simprocAttr, hX]; (repeat (with_reducible refine And.intro ?_ ?_); exact vc0); refine hK _ ?_; clear hK K; refine Run.nq ?_
  refine Run.reK hpin [0, 7, 8, 9, 10, 11, 12, 13] [0, 1] (by decide) (by simp) ?_; simp only [AR, AW7, simprocAttr]
  refine Run.loopI (X := Nat × Int) (fun s => ⟨75, [(0, true, .v (.sl false (.row false) (c))), (7, true, .v (.bool (false))), (8, true, .v (.own 0 0)), (9, true, .v (.bool ((itvB c u v)))), (10, true, .v (.own 1 0)), (11, true, .v (.int .i64 (i))), (12, true, .v (.int .i64 (s.2))), (13, true, .v (.int .i64 (s.1)))], [.arr .lrow (ys) 0 true, .arr .int (xs) 0 true]⟩) (fun s => s.1 ≤ i ∧ s.2 = pS c (rw2 ys) i s.1 * e0) (fun s => i - s.1) ((0, 0)) (⟨Nat.zero_le _, by simp [pS]⟩) ?_ ?_
  · exact Le.sub (by first | rfl | simp) (by simp only [AW7, simprocAttr, hX]; try simp <;> try (first | rfl | exact ⟨rfl, rfl⟩ | exact ⟨rfl, rfl, rfl⟩))
  rintro ⟨j, a⟩ ⟨hj, ha⟩ ih
  try simp only []
  simp only [] at hj ha
  subst ha
  have hb := hnb i j
  refine Run.nq ?_; refine Run.regionW hC (fun K hK => ?_); simp only [AW7, simprocAttr, hX]; (repeat (with_reducible refine And.intro ?_ ?_); exact vc0); refine hK _ ?_; clear hK K; refine Run.nq ?_
  refine Run.nq ?_; refine Run.condW (by simp only [AW7, simprocAttr, hX]; rfl) (by simp only [AW7, simprocAttr, hX]) ?_ ?_
  rotate_left
  · intro h3
    have h3 : j = i := by rw [decide_eq_false_iff_not] at h3; omega
    subst h3
    refine Run.exit rfl ?_; refine Run.nq ?_
    refine Run.nq ?_; refine Run.regionW hC (fun K hK => ?_); simp (disch := omega) only [wrap_id, AW7, simprocAttr, hX]; (repeat (with_reducible refine And.intro ?_ ?_); exact vc0); refine hK _ ?_; clear hK K; refine Run.nq ?_
    refine Run.nq ?_; refine Run.regionW hC (fun K hK => ?_); simp only [AW7, simprocAttr, hX]; (repeat (with_reducible refine And.intro ?_ ?_); exact vc0); refine hK _ ?_; clear hK K; refine Run.nq ?_
    refine Run.nq ?_; refine Run.condW (by simp only [AW7, simprocAttr, hX]; rfl) (by simp only [AW7, simprocAttr, hX]) ?_ ?_
    · intro h4
      have h4 : j = 0 := by
        have h4 : (j : Int) = 0 := by simpa using h4
        omega
      subst h4
      refine Run.nq ?_; refine Run.regionW hC (fun K hK => ?_); simp only [AW7, simprocAttr, hX]; (repeat (with_reducible refine And.intro ?_ ?_); exact vc0); refine hK _ ?_; clear hK K; refine Run.nq ?_
      refine Run.reK hpin [0, 7, 8, 9, 10, 11] [0, 1] (by decide) (by simp) ?_; simp only [AR, AW7, simprocAttr]
      refine Run.nq ?_; refine Run.regionW hC (fun K hK => ?_); simp (disch := omega) only [wrap_id, AW7, simprocAttr, hX]; (repeat (with_reducible refine And.intro ?_ ?_); exact vc0); refine hK _ ?_; clear hK K; refine Run.nq ?_
      have hx0 : 0 < xs.length := by omega
      have hn : ∀ m, m < 1 → ((xs.set 0 (0 - pS c (rw2 ys) 0 0 * e0)).set 0 1).getD m 0 = eps ((rw2 ys).getD m []) * e0 := fun m hm => by
        have : m = 0 := by omega
        subst this
        rw [hE0, List.getD_eq_getElem?_getD]
        rcases he0 with e | e <;> simp [e, hx0]
      refine Run.le ?_ (ihO (((xs.set 0 (0 - pS c (rw2 ys) 0 0 * e0)).set 0 1, 1)) (⟨h2, by simp [hxl], hn⟩) (by (try simp only [List.length_append, List.length_cons, List.length_nil]); omega))
      exact Le.sub (by rfl) (by simp only [AW7, simprocAttr]; try simp)
    intro h4
    have h4 : 0 < j := by
      have h4 : ¬ (j : Int) = 0 := by simpa using h4
      omega
    have hs := hsum j (by rw [rwl]; omega) h4
    refine Run.reK hpin [0, 7, 8, 9, 10, 11] [0, 1] (by decide) (by simp) ?_; simp only [AR, AW7, simprocAttr]
    refine Run.nq ?_; refine Run.regionW hC (fun K hK => ?_); simp (disch := omega) only [wrap_id, AW7, simprocAttr, hX]; (repeat (with_reducible refine And.intro ?_ ?_); exact vc0); refine hK _ ?_; clear hK K; refine Run.nq ?_
    have hn : ∀ m, m < j + 1 → (xs.set j (0 - pS c (rw2 ys) j j * e0)).getD m 0 = eps ((rw2 ys).getD m []) * e0 := fun m hm => by
      by_cases e : m = j
      · subst e
        rw [List.getD_eq_getElem?_getD, List.getElem?_set_self (by omega), hs]
        simp only [Option.getD_some, Int.neg_mul, Int.sub_neg, Int.zero_add]
      · rw [List.getD_eq_getElem?_getD, List.getElem?_set_ne (Ne.symm e), ← List.getD_eq_getElem?_getD]
        exact hxs m (by omega)
    refine Run.le ?_ (ihO ((xs.set j (0 - pS c (rw2 ys) j j * e0), j + 1)) (⟨h2, by simp [hxl], hn⟩) (by (try simp only [List.length_append, List.length_cons, List.length_nil]); omega))
    exact Le.sub (by rfl) (by simp only [AW7, simprocAttr]; try simp)
  intro h3
  have h3 : j < i := by rw [decide_eq_true_eq] at h3; omega
  have hyj := hnf j (by omega)
  have hgj := rwg ys j
  have hss := pS_succ c (rw2 ys) i j
  have hxj := hxs j h3
  have hb1 := hnb i (j + 1)
  have hl15 : l15 c ((rw2 ys).getD j []) ((rw2 ys).getD i []) = belB c (imageL c ((rw2 ys).getD j [])) ((rw2 ys).getD i []) := l15_bel hcc _ hyi.1.1 (hyj.1.red hcc) (by omega)
  refine Run.nq ?_; refine Run.regionD hC true [0,1,2,3,4,5,6,7,8,9] (by kernel_rfl) (fun K hK => ?_); simp only [AW7, simprocAttr, hX]; (repeat (with_reducible refine And.intro ?_ ?_); exact vc0)
  simp only [Int.toNat_natCast, hgi, hgj]
  refine FunA.callD hP hT (c_spec_l15Below c hcc ((rw2 ys).getD i []) ((rw2 ys).getD j []) hyi.1.1 (hyj.1.red hcc) (by omega) (by omega)) (by simp only [AW7, simprocAttr]) ?_
  rintro rs o ⟨rfl, rfl⟩
  (try simp only [AW7, simprocAttr, hX]); (repeat (with_reducible refine And.intro ?_ ?_); exact vc0)
  (repeat (with_reducible refine And.intro ?_ ?_); exact vc0); refine hK _ ?_; clear hK K; refine Run.nq ?_
  rw [hl15]
  refine Run.nq ?_; refine Run.condW (by simp only [AW7, simprocAttr, hX]; rfl) (by simp only [AW7, simprocAttr, hX]) ?_ ?_
  · intro h4
    have h4 : belB c (imageL c ((rw2 ys).getD j [])) ((rw2 ys).getD i []) = true := h4
    rw [if_pos h4] at hss
    have e3 : pS c (rw2 ys) i j * e0 + xs.getD j 0 = pS c (rw2 ys) i (j + 1) * e0 := by rw [hss, hxj, Int.add_mul]
    refine Run.nq ?_; refine Run.regionW hC (fun K hK => ?_); simp (disch := omega) only [wrap_id, AW7, simprocAttr, hX]; (repeat (with_reducible refine And.intro ?_ ?_); exact vc0); refine hK _ ?_; clear hK K; refine Run.nq ?_
    rw [e3]
    refine Run.reK hpin [0, 7, 8, 9, 10, 11, 12, 13] [0, 1] (by decide) (by simp) ?_; simp only [AR, AW7, simprocAttr]
    refine Run.nq ?_; refine Run.regionW hC (fun K hK => ?_); simp (disch := omega) only [wrap_id, AW7, simprocAttr, hX]; (repeat (with_reducible refine And.intro ?_ ?_); exact vc0); refine hK _ ?_; clear hK K; refine Run.nq ?_
    refine Run.le ?_ (ih ((j + 1, pS c (rw2 ys) i (j + 1) * e0)) (⟨h3, rfl⟩) (by (try simp only [List.length_append, List.length_cons, List.length_nil]); omega))
    exact Le.sub (by rfl) (by simp only [AW7, simprocAttr]; try simp)
  intro h4
  have h4 : ¬ belB c (imageL c ((rw2 ys).getD j [])) ((rw2 ys).getD i []) = true := by
    have h4 : belB c (imageL c ((rw2 ys).getD j [])) ((rw2 ys).getD i []) = false := h4
    rw [h4]; simp
  rw [if_neg h4] at hss
  refine Run.reK hpin [0, 7, 8, 9, 10, 11, 12, 13] [0, 1] (by decide) (by simp) ?_; simp only [AR, AW7, simprocAttr]
  refine Run.nq ?_; refine Run.regionW hC (fun K hK => ?_); simp (disch := omega) only [wrap_id, AW7, simprocAttr, hX]; (repeat (with_reducible refine And.intro ?_ ?_); exact vc0); refine hK _ ?_; clear hK K; refine Run.nq ?_
  refine Run.le ?_ (ih ((j + 1, pS c (rw2 ys) i j * e0)) (⟨h3, by simp only [hss]⟩) (by (try simp only [List.length_append, List.length_cons, List.length_nil]); omega))
  exact Le.sub (by rfl) (by simp only [AW7, simprocAttr]; try simp)
end Go.Proofs.YtojcdgdbffmlpaaGreat
namespace Go.Proofs.YtojcdgdbffmlpaaGreat
open Go Go.Aw Go.Cox
noncomputable def subW (c : List (List Int)) (u v : List Int) : List Int := if brB c u v then subL c (imageL c u) (redL c v) 0 else []
theorem subW_le (c : List (List Int)) (u v : List Int) : (subW c u v).length ≤ 15 := by
  unfold subW
  split
  · rename_i h
    have h2 : wordB c v = true := by
      unfold brB at h
      simp only [Bool.and_eq_true] at h
      exact h.1.2
    obtain ⟨hc, h5, h6⟩ := wordB_iff.1 h2
    obtain ⟨b1, b2, b3, b4, b5⟩ := red_spec hc h6 (by omega)
    have := subL_le c (redL c v) (imageL c u) 0
    omega
  · simp
theorem c_impl_SubwordOf (c : List (List Int)) (u v : List Int) (hcl : c.length ≤ 1048576) :
    FunA B 12 [.sl false (.row false) c, .sl false .int u, .sl false .int v] (fun rs o => rs = [.own 0 0, .bool (brB c u v)] ∧ o = [.arr .int (subW c u v) 0 true]) := by
  refine FunA.walk B_ok (fn := Tryz.f12) (fun vs w => Tryz.call12 vs w) Tryz.func12 rfl (by rw [Tryz.ntmps12]; simp) (fun C hC hP hT hΓ hbt hfn hpin hfin => ?_); have hX := BX; rw [← hΓ, ← hbt.1, ← hbt.2] at hX; rw [Tryz.ntmps12]; simp only [AW7, simprocAttr, hX]
  refine Run.nq ?_; refine Run.regionW hC (fun K hK => ?_); simp only [AW7, simprocAttr, hX]; (repeat (with_reducible refine And.intro ?_ ?_); exact vc0); refine hK _ ?_; clear hK K; refine Run.nq ?_
  refine Run.nq ?_; refine Run.regionW hC (fun K hK => ?_); simp only [AW7, simprocAttr, hX]; (repeat (with_reducible refine And.intro ?_ ?_); exact vc0)
  refine FunA.callW hP hT (c_impl_IsWord c u) (by simp only [AW7, simprocAttr]) ?_
  rintro rs o ⟨rfl, rfl⟩
  (try simp only [AW7, simprocAttr, hX]); (repeat (with_reducible refine And.intro ?_ ?_); exact vc0)
  refine .inl (FunA.callG hP hT (c_impl_IsWord c v) (fun _ => rfl) (fun _ => by simp only [AW7, simprocAttr]) ?_)
  (try simp only [AW7, simprocAttr, hX]); (repeat (with_reducible refine And.intro ?_ ?_); exact vc0)
  (repeat (with_reducible refine And.intro ?_ ?_); exact vc0); refine hK _ ?_; clear hK K; refine Run.nq ?_
  refine Run.keep [0, 1, 2, 6, 7, 19] ?_; simp only [AK, Nat.reduceBEq]
  refine Run.nq ?_; refine Run.condW (by simp only [AW7, simprocAttr, hX]; rfl) (by simp only [AW7, simprocAttr, hX]) ?_ ?_
  · intro h
    have hb : brB c u v = false := by
      unfold brB
      cases hu : wordB c u with
      | false => rfl
      | true => rw [hu] at h; cases hv : wordB c v with
        | false => rfl
        | true => rw [hv] at h; simp at h
    refine Run.nq ?_; refine Run.regionW hC (fun K hK => ?_); simp only [AW7, simprocAttr, hX]; (repeat (with_reducible refine And.intro ?_ ?_); exact vc0); refine hK _ ?_; clear hK K; refine Run.nq ?_
    refine Run.retW [6, 7] (by decide) (by rw [hfn]; rfl) (by simp only [AW7, simprocAttr, hX]; rfl) (by simp only [AW7, simprocAttr, hX]) (hfin _ _ rfl rfl ?_)
    simp [subW, hb]
  · intro h
    have hu : wordB c u = true := by
      cases hu : wordB c u with
      | true => rfl
      | false => rw [hu] at h; simp at h
    have hv : wordB c v = true := by
      rw [hu] at h
      cases hv : wordB c v with
      | true => rfl
      | false => rw [hv] at h; simp at h
    obtain ⟨hc, h2, h3⟩ := wordB_iff.1 hu
    obtain ⟨_, h5, h6⟩ := wordB_iff.1 hv
    obtain ⟨b1, b2, b3, b4, b5⟩ := red_spec hc h6 (by omega)
    have hbr : brB c u v = belB c (imageL c u) (redL c v) := by simp [brB, hu, hv]
    refine Run.nq ?_; refine Run.regionW hC (fun K hK => ?_); simp only [AW7, simprocAttr, hX]; (repeat (with_reducible refine And.intro ?_ ?_); exact vc0)
    refine FunA.callW hP hT (c_impl_image c u hc h3 (by omega)) (by simp only [AW7, simprocAttr]) ?_
    rintro rs o ⟨rfl, rfl⟩
    (try simp only [AW7, simprocAttr, hX]); (repeat (with_reducible refine And.intro ?_ ?_); exact vc0)
    refine FunA.callW hP hT (c_impl_reduced c v hc h6 (by omega)) (by simp only [AW7, simprocAttr]) ?_
    rintro rs o ⟨rfl, rfl⟩
    (try simp only [AW7, simprocAttr, hX]); (repeat (with_reducible refine And.intro ?_ ?_); exact vc0)
    refine FunA.callW hP hT (c_impl_subword c (imageL c u) (redL c v) hc (imageL_length ..) b1 (by omega) (sub_hB hc h3 b1 (by omega))) (by simp only [AW7, simprocAttr]) ?_
    rintro rs o ⟨rfl, rfl⟩
    (try simp only [AW7, simprocAttr, hX]); (repeat (with_reducible refine And.intro ?_ ?_); exact vc0)
    (repeat (with_reducible refine And.intro ?_ ?_); exact vc0); refine hK _ ?_; clear hK K; refine Run.nq ?_
    refine Run.nq ?_; refine Run.regionW hC (fun K hK => ?_); simp only [AW7, simprocAttr, hX]; (repeat (with_reducible refine And.intro ?_ ?_); exact vc0); refine hK _ ?_; clear hK K; refine Run.nq ?_
    refine Run.nq ?_; refine Run.condW (by simp only [AW7, simprocAttr, hX]; rfl) (by simp only [AW7, simprocAttr, hX]) ?_ ?_
    · intro hx
      have hx : brB c u v = false := by rw [hbr]; simpa using hx
      refine Run.nq ?_; refine Run.regionW hC (fun K hK => ?_); simp only [AW7, simprocAttr, hX]; (repeat (with_reducible refine And.intro ?_ ?_); exact vc0); refine hK _ ?_; clear hK K; refine Run.nq ?_
      refine Run.le (Le.re (obs' := [.arr .int (subW c u v) 0 true]) hpin [3] [(6, true, .own 0 0), (7, true, .bool (brB c u v))] rfl (by simp [leOs, leO_arr, oAt, subW, hx]) (by refine ⟨⟨_, rfl, ?_⟩, ⟨_, rfl, ?_⟩, trivial⟩ <;> simp [leAV, oAt, genO, hx])) ?_
      simp only [frV_cons, frV_nil]
      refine Run.retW [6, 7] (by decide) (by rw [hfn]; rfl) (by simp only [AW7, simprocAttr, hX]; rfl) (by simp only [AW7, simprocAttr, hX]) (hfin _ _ rfl rfl ?_)
      exact ⟨rfl, rfl⟩
    · intro hx
      have hx : brB c u v = true := by rw [hbr]; simpa using hx
      refine Run.nq ?_; refine Run.regionW hC (fun K hK => ?_); simp only [AW7, simprocAttr, hX]; (repeat (with_reducible refine And.intro ?_ ?_); exact vc0); refine hK _ ?_; clear hK K; refine Run.nq ?_
      refine Run.le (Le.re (obs' := [.arr .int (subW c u v) 0 true]) hpin [2] [(6, true, .own 0 0), (7, true, .bool (brB c u v))] rfl (by simp [leOs, leO_arr, oAt, subW, hx]) (by refine ⟨⟨_, rfl, ?_⟩, ⟨_, rfl, ?_⟩, trivial⟩ <;> simp [leAV, oAt, genO, hx])) ?_
      simp only [frV_cons, frV_nil]
      refine Run.retW [6, 7] (by decide) (by rw [hfn]; rfl) (by simp only [AW7, simprocAttr, hX]; rfl) (by simp only [AW7, simprocAttr, hX]) (hfin _ _ rfl rfl ?_)
      exact ⟨rfl, rfl⟩
theorem bel_red {c : List (List Int)} (hc : CartanP c) {x : List Int} {i : Int} (hx : Red c x) (hl : x.length ≤ 30) (hi : 0 ≤ i ∧ i < c.length) (hv : (imageL c x).getD i.toNat 0 < 0) :
    Red c (redL c (i :: x)) ∧ (redL c (i :: x)).length ≤ 30 ∧ imageL c (redL c (i :: x)) = reflL c i (imageL c x) := by
  obtain ⟨M, m1, m2⟩ := hx.2.down hc hi hv
  obtain ⟨k1, k2, k3⟩ := red_far hc (w := i :: x) (L := M) m2 (by omega)
  exact ⟨⟨k2, by rw [k1, k3]; exact m2⟩, by omega, k3⟩
theorem c_spec_SubwordOf (c : List (List Int)) (u v : List Int) (hcl : c.length ≤ 1048576) :
    FunA B 13 [.sl false (.row false) c, .sl false .int u, .sl false .int v] (fun rs o => rs = [.own 0 0, .bool (brB c u v)] ∧ o = [.arr .int (subW c u v) 0 true]) := by
  refine FunA.walk B_ok (fn := Tryz.f13) (fun vs w => Tryz.call13 vs w) Tryz.func13 rfl (by rw [Tryz.ntmps13]; simp) (fun C hC hP hT hΓ hbt hfn hpin hfin => ?_); have hX := BX; rw [← hΓ, ← hbt.1, ← hbt.2] at hX; rw [Tryz.ntmps13]; simp only [AW7, simprocAttr, hX]
  refine Run.nq ?_; refine Run.regionW hC (fun K hK => ?_); simp only [AW7, simprocAttr, hX]; (repeat (with_reducible refine And.intro ?_ ?_); exact vc0); refine hK _ ?_; clear hK K; refine Run.nq ?_
  refine Run.nq ?_; refine Run.regionW hC (fun K hK => ?_); simp only [AW7, simprocAttr, hX]; (repeat (with_reducible refine And.intro ?_ ?_); exact vc0)
  refine FunA.callW hP hT (c_spec_IsBruhatBelow c u v hcl) (by simp only [AW7, simprocAttr]) ?_
  rintro rs o ⟨rfl, rfl⟩
  (try simp only [AW7, simprocAttr, hX]); (repeat (with_reducible refine And.intro ?_ ?_); exact vc0)
  (repeat (with_reducible refine And.intro ?_ ?_); exact vc0); refine hK _ ?_; clear hK K; refine Run.nq ?_
  refine Run.nq ?_; refine Run.condW (by simp only [AW7, simprocAttr, hX]; rfl) (by simp only [AW7, simprocAttr, hX]) ?_ ?_
  · intro h
    have hb : brB c u v = false := by simpa using h
    refine Run.nq ?_; refine Run.regionW hC (fun K hK => ?_); simp only [AW7, simprocAttr, hX]; (repeat (with_reducible refine And.intro ?_ ?_); exact vc0); refine hK _ ?_; clear hK K; refine Run.nq ?_
    refine Run.retW [6, 7] (by decide) (by rw [hfn]; rfl) (by simp only [AW7, simprocAttr, hX]; rfl) (by simp only [AW7, simprocAttr, hX]) (hfin _ _ rfl rfl ?_)
    simp [subW, hb]
  · intro h
    have hb : brB c u v = true := by simpa using h
    have hu : wordB c u = true := by unfold brB at hb; simp only [Bool.and_eq_true] at hb; exact hb.1.1
    have hv : wordB c v = true := by unfold brB at hb; simp only [Bool.and_eq_true] at hb; exact hb.1.2
    obtain ⟨hc, h2, h3⟩ := wordB_iff.1 hu
    obtain ⟨_, h5, h6⟩ := wordB_iff.1 hv
    obtain ⟨a1, a2, a3, a4, a5⟩ := red_spec hc h3 (by omega)
    obtain ⟨b1, b2, b3, b4, b5⟩ := red_spec hc h6 (by omega)
    have hn := hc.2.1
    refine Run.nq ?_; refine Run.regionW hC (fun K hK => ?_); simp only [AW7, simprocAttr, hX]; (repeat (with_reducible refine And.intro ?_ ?_); exact vc0)
    refine FunA.callW hP hT (c_spec_l8Normal c u hc h3 (by omega)) (by simp only [AW7, simprocAttr]) ?_
    rintro rs o ⟨rfl, rfl⟩
    (try simp only [AW7, simprocAttr, hX]); (repeat (with_reducible refine And.intro ?_ ?_); exact vc0)
    (repeat (with_reducible refine And.intro ?_ ?_); exact vc0); refine hK _ ?_; clear hK K; refine Run.nq ?_
    refine Run.nq ?_; refine Run.regionW hC (fun K hK => ?_); simp only [AW7, simprocAttr, hX]; (repeat (with_reducible refine And.intro ?_ ?_); exact vc0)
    refine FunA.callW hP hT (c_spec_l8Normal c v hc h6 (by omega)) (by simp only [AW7, simprocAttr]) ?_
    rintro rs o ⟨rfl, rfl⟩
    (try simp only [AW7, simprocAttr, hX]); (repeat (with_reducible refine And.intro ?_ ?_); exact vc0)
    (repeat (with_reducible refine And.intro ?_ ?_); exact vc0); refine hK _ ?_; clear hK K; refine Run.nq ?_
    refine Run.nq ?_; refine Run.regionW hC (fun K hK => ?_); simp only [AW7, simprocAttr, hX]; (repeat (with_reducible refine And.intro ?_ ?_); exact vc0); refine hK _ ?_; clear hK K; refine Run.nq ?_
    refine Run.nq ?_; refine Run.regionW hC (fun K hK => ?_); simp only [AW7, simprocAttr, hX]; (repeat (with_reducible refine And.intro ?_ ?_); exact vc0); refine hK _ ?_; clear hK K; refine Run.nq ?_
    refine Run.keep [0, 6, 7, 8, 9, 10, 11] ?_; simp only [AK, Nat.reduceBEq]
    refine Run.loopI (X := Nat × Nat × List Int) (fun m => ⟨55, [(0, true, .v (.sl false (.row false) c)), (6, true, .v .nils), (7, true, .v (.bool false)), (8, true, .v (.own 0 0)), (9, true, .v (.own 1 0)), (10, true, .v (.own 2 m.2.1)), (11, true, .v (.int .i64 m.1))], [.arr .int m.2.2 0 true, .arr .int (redL c v) 0 true, .arr .int (subL c (imageL c u) ((redL c v).take m.1) 0) m.2.1 true]⟩)
      (fun m => m.1 ≤ (redL c v).length ∧ Red c m.2.2 ∧ m.2.2.length ≤ 30 ∧ imageL c m.2.2 = belV c (imageL c u) ((redL c v).take m.1)) (fun m => (redL c v).length - m.1) (0, 0, redL c u) ⟨Nat.zero_le _, red_Red hc h3 (by omega), by simp only []; omega, a4⟩ ?_ ?_
    · exact Le.sub (by rfl) (by simp only [AW7, simprocAttr, hX]; try simp)
    rintro ⟨m, g, x⟩ ⟨hm, hx, hxl, hxi⟩ ih
    simp only [] at hm hx hxl hxi ⊢
    have hil := imageL_length c x
    have hsl := subL_le c ((redL c v).take m) (imageL c u) 0
    simp only [List.length_take] at hsl
    refine Run.nq ?_; refine Run.regionW hC (fun K hK => ?_); simp only [AW7, simprocAttr, hX]; (repeat (with_reducible refine And.intro ?_ ?_); exact vc0); refine hK _ ?_; clear hK K; refine Run.nq ?_
    refine Run.nq ?_; refine Run.condW (by simp only [AW7, simprocAttr, hX]; rfl) (by simp only [AW7, simprocAttr, hX]) ?_ ?_
    · intro h
      have h : m < (redL c v).length := by simpa using h
      have hlet := letters_getD.1 b1 m h
      have hsn := belV_snoc c ((redL c v).take m) (imageL c u) ((redL c v).getD m 0)
      have hss := subL_snoc c ((redL c v).take m) (imageL c u) 0 ((redL c v).getD m 0)
      rw [take_snoc 0 (redL c v) m h] at hsn hss
      have e2 : (0 : Int) + (((redL c v).take m).length : Nat) = (m : Int) := by simp; omega
      rw [e2, ← hxi] at hss
      rw [← hxi] at hsn
      refine Run.keep [0, 6, 7, 8, 9, 10, 11] ?_; simp only [AK, Nat.reduceBEq]
      refine Run.nq ?_
      refine Run.regionD hC true [0,1,3,4,5,6,2,7,8,9] (by kernel_rfl) (fun K hK => ?_)
      simp only [AW7, simprocAttr, hX]
      (repeat (with_reducible refine And.intro ?_ ?_); exact vc0)
      refine FunA.callD hP hT (c_spec_l8Image c x hc hx.1 (by omega)) (by simp only [AW7, simprocAttr]) ?_
      rintro rs o ⟨rfl, rfl⟩
      (try simp only [AW7, simprocAttr, hX]); (repeat (with_reducible refine And.intro ?_ ?_); exact vc0)
      (repeat (with_reducible refine And.intro ?_ ?_); exact vc0); refine hK _ ?_; clear hK K; refine Run.nq ?_
      refine Run.le (Le.cut0 hpin [_] (fr' := [(0, true, .v (.sl false (.row false) c)), (6, true, .v .nils), (7, true, .v (.bool false)), (8, true, .v (.own 0 0)), (9, true, .v (.own 1 0)), (10, true, .v (.own 2 g)), (11, true, .v (.int .i64 m)), (40, true, .v (.bool (decide ((imageL c x).getD ((redL c v).getD m 0).toNat 0 < 0))))]) (obs' := [.arr .int x 0 true, .arr .int (redL c v) 0 true, .arr .int (subL c (imageL c u) ((redL c v).take m) 0) g true]) rfl (by simp only [AW7, simprocAttr]; try simp) rfl) ?_
      refine Run.nq ?_; refine Run.condW (by simp only [AW7, simprocAttr, hX]; rfl) (by simp only [AW7, simprocAttr, hX]) ?_ ?_
      · intro hx2
        have hx2 : (imageL c x).getD ((redL c v).getD m 0).toNat 0 < 0 := by simpa using hx2
        rw [if_pos hx2] at hsn hss
        obtain ⟨k1, k2, k3⟩ := bel_red hc hx hxl hlet hx2
        refine Run.nq ?_; refine Run.regionW hC (fun K hK => ?_); simp only [AW7, simprocAttr, hX]; (repeat (with_reducible refine And.intro ?_ ?_); exact vc0)
        refine FunA.callW hP hT (c_spec_ConcatWords [(redL c v).getD m 0] x (by simp) (by omega)) (by simp only [AW7, simprocAttr]) ?_
        rintro rs o ⟨rfl, rfl⟩
        (try simp only [AW7, simprocAttr, hX]); (repeat (with_reducible refine And.intro ?_ ?_); exact vc0)
        rw [show ([(redL c v).getD m 0] ++ x) = (redL c v).getD m 0 :: x from rfl]
        refine FunA.callW hP hT (c_spec_l8Normal c ((redL c v).getD m 0 :: x) hc (letters_cons.2 ⟨hlet, hx.1⟩) (by simp; omega)) (by simp only [AW7, simprocAttr]) ?_
        rintro rs o ⟨rfl, rfl⟩
        (try simp only [AW7, simprocAttr, hX]); (repeat (with_reducible refine And.intro ?_ ?_); exact vc0)
        (repeat (with_reducible refine And.intro ?_ ?_); exact vc0); refine hK _ ?_; clear hK K; refine Run.nq ?_
        refine Run.le (Le.re (obs' := [.arr .int (redL c ((redL c v).getD m 0 :: x)) 0 true, .arr .int (redL c v) 0 true, .arr .int (subL c (imageL c u) ((redL c v).take m) 0) 0 true]) hpin [5, 1, 2] [(0, true, .sl false (.row false) c), (6, true, .nils), (7, true, .bool false), (8, true, .own 0 0), (9, true, .own 1 0), (10, true, .own 2 0), (11, true, .int .i64 m)] rfl (by simp [leOs, leO_arr, oAt]) (by refine ⟨⟨_, rfl, ?_⟩, ⟨_, rfl, ?_⟩, ⟨_, rfl, ?_⟩, ⟨_, rfl, ?_⟩, ⟨_, rfl, ?_⟩, ⟨_, rfl, ?_⟩, ⟨_, rfl, ?_⟩, trivial⟩ <;> simp [leAV, oAt, genO])) ?_
        simp only [frV_cons, frV_nil]
        refine Run.nq ?_; refine Run.regionW hC (fun K hK => ?_); simp only [AW7, simprocAttr, hX]; (repeat (with_reducible refine And.intro ?_ ?_); exact vc0); refine hK _ ?_; clear hK K; refine Run.nq ?_
        refine Run.nq ?_; refine Run.regionW hC (fun K hK => ?_); simp (disch := omega) only [wrap_id, AW7, simprocAttr, hX]; (repeat (with_reducible refine And.intro ?_ ?_); exact vc0); refine hK _ ?_; clear hK K; refine Run.nq ?_
        refine Run.le ?_ (ih (m + 1, 1, redL c ((redL c v).getD m 0 :: x)) ⟨h, k1, k2, by simp only []; rw [k3, hsn]⟩ (by simp only []; omega))
        exact Le.cut0 hpin [_] (by rw [hss]; rfl) (by simp only [AW7, simprocAttr]; try simp) rfl
      · intro hx2
        have hx2 : ¬ (imageL c x).getD ((redL c v).getD m 0).toNat 0 < 0 := by simpa using hx2
        rw [if_neg hx2] at hsn hss
        refine Run.nq ?_; refine Run.regionW hC (fun K hK => ?_); simp (disch := omega) only [wrap_id, AW7, simprocAttr, hX]; (repeat (with_reducible refine And.intro ?_ ?_); exact vc0); refine hK _ ?_; clear hK K; refine Run.nq ?_
        refine Run.le ?_ (ih (m + 1, g, x) ⟨h, hx, hxl, by simp only []; rw [hxi] at hsn ⊢; exact hsn.symm⟩ (by simp only []; omega))
        exact Le.sub (by rw [hss]) (by simp only [AW7, simprocAttr]; try simp)
    · intro h
      have h : m = (redL c v).length := by simp at h; omega
      subst h
      rw [List.take_length]
      refine Run.exit rfl ?_; refine Run.nq ?_
      refine Run.nq ?_; refine Run.regionW hC (fun K hK => ?_); simp only [AW7, simprocAttr, hX]; (repeat (with_reducible refine And.intro ?_ ?_); exact vc0); refine hK _ ?_; clear hK K; refine Run.nq ?_
      refine Run.le (Le.re (obs' := [.arr .int (subW c u v) 0 true]) hpin [2] [(6, true, .own 0 0), (7, true, .bool (brB c u v))] rfl (by simp [leOs, leO_arr, oAt, subW, hb]) (by refine ⟨⟨_, rfl, ?_⟩, ⟨_, rfl, ?_⟩, trivial⟩ <;> simp [leAV, oAt, genO, hb])) ?_
      simp only [frV_cons, frV_nil]
      refine Run.retW [6, 7] (by decide) (by rw [hfn]; rfl) (by simp only [AW7, simprocAttr, hX]; rfl) (by simp only [AW7, simprocAttr, hX]) (hfin _ _ rfl rfl ?_)
      exact ⟨rfl, rfl⟩
end Go.Proofs.YtojcdgdbffmlpaaGreat
namespace Go.Proofs.YtojcdgdbffmlpaaGreat
open Go Go.Aw Go.Cox
theorem img_rev {c : List (List Int)} (hc : CartanP c) {a b : List Int} (ha : letters c.length a) (hb : letters c.length b) (h : imageL c a = imageL c b) : imageL c a.reverse = imageL c b.reverse := rev_same hc ha hb h (ones_length c.length)
theorem wrev {c : List (List Int)} {w : List Int} (h : wordB c w = true) : wordB c w.reverse = true := by
  obtain ⟨hc, h1, h2⟩ := wordB_iff.1 h
  first | exact wordB_iff.2 ⟨hc, by simpa using h1, letters_reverse h2⟩ | exact wordB_iff.2 ⟨hc, letters_reverse h1, by simpa using h2⟩
theorem br_iff {c : List (List Int)} {u v : List Int} (hu : wordB c u = true) (hv : wordB c v = true) : brB c u v = true ↔ SubI c (redL c v) (imageL c u) := by
  obtain ⟨hc, u1, u2⟩ := wordB_iff.1 hu
  obtain ⟨_, v1, v2⟩ := wordB_iff.1 hv
  obtain ⟨a1, a2, a3, a4, a5⟩ := red_spec hc u2 (by omega)
  obtain ⟨b1, _⟩ := red_spec hc v2 (by omega)
  unfold brB
  rw [hu, hv]
  simp only [Bool.true_and]
  exact bel_sub hc _ b1 a5
theorem br_rev1 {c : List (List Int)} {u v : List Int} (hu : wordB c u = true) (hv : wordB c v = true) (h : brB c u v = true) : brB c u.reverse v.reverse = true := by
  have hur : wordB c u.reverse = true := wrev hu
  have hvr : wordB c v.reverse = true := wrev hv
  obtain ⟨hc, u1, u2⟩ := wordB_iff.1 hu
  obtain ⟨_, v1, v2⟩ := wordB_iff.1 hv
  obtain ⟨b1, b2, b3, b4, b5⟩ := red_spec hc v2 (by omega)
  obtain ⟨d1, d2, d3, d4, d5⟩ := red_spec hc (letters_reverse v2) (by simp; omega)
  rw [br_iff hur hvr]
  obtain ⟨s, hs, he⟩ := (br_iff hu hv).1 h
  have hsl : letters c.length s := letters_sub hs b1
  have hR := (red_Red hc v2 (by omega)).rev hc (by omega)
  have e1 : imageL c (redL c v.reverse) = imageL c (redL c v).reverse := by
    rw [d4]; exact (img_rev hc b1 v2 b4).symm
  refine sub_word hc hR (by simp; omega) d1 e1 ⟨s.reverse, hs.reverse, img_rev hc hsl u2 he⟩
theorem br_rev {c : List (List Int)} {u v : List Int} (hu : wordB c u = true) (hv : wordB c v = true) : brB c u.reverse v.reverse = brB c u v := by
  rw [Bool.eq_iff_iff]
  constructor
  · intro h
    have := br_rev1 (wrev hu) (wrev hv) h
    rwa [List.reverse_reverse, List.reverse_reverse] at this
  · exact br_rev1 hu hv
theorem br_anti {c : List (List Int)} {u v : List Int} (hu : wordB c u = true) (hv : wordB c v = true) (h : brB c u v = true) (k : brB c v u = true) : imageL c u = imageL c v := by
  obtain ⟨hc, u1, u2⟩ := wordB_iff.1 hu
  obtain ⟨_, v1, v2⟩ := wordB_iff.1 hv
  obtain ⟨nu, lu⟩ := word_nf hu
  obtain ⟨nv, lv⟩ := word_nf hv
  obtain ⟨a1, a2, a3, a4, a5⟩ := red_spec hc u2 (by omega)
  obtain ⟨b1, b2, b3, b4, b5⟩ := red_spec hc v2 (by omega)
  have h1 : Low c (redL c v) (redL c u) := ⟨nu, by rw [a4]; exact (br_iff hu hv).1 h⟩
  have h2 : Low c (redL c u) (redL c v) := ⟨nv, by rw [b4]; exact (br_iff hv hu).1 k⟩
  have : redL c u = redL c v := by
    refine Classical.byContradiction fun hne => ?_
    have := Low.short hc nv h1 hne
    have := h2.len hc a1
    omega
  rw [← a4, ← b4, this]
def subT (c : List (List Int)) : List Int → List Int → List Int
  | _, [] => []
  | x, i :: r => if x.getD i.toNat 0 < 0 then i :: subT c (reflL c i x) r else subT c x r
theorem subT_far {c : List (List Int)} (hc : CartanP c) : ∀ (w : List Int) {x : List Int} {L : Nat}, letters c.length w → Far c L x → ∃ M, Far c M (belV c x w) ∧ L = M + (subT c x w).length ∧ actL c (subT c x w) (belV c x w) = x
  | [], x, L, _, h => ⟨L, h, by simp [subT], rfl⟩
  | i :: r, x, L, hw, h => by
    obtain ⟨hi, hr⟩ := letters_cons.1 hw
    simp only [belV, subT]
    split
    · rename_i hx
      obtain ⟨M, h1, h2⟩ := h.down hc hi hx
      obtain ⟨N, h3, h4, h5⟩ := subT_far hc r hr h2
      refine ⟨N, h3, by simp; omega, ?_⟩
      show reflL c i (actL c (subT c (reflL c i x) r) (belV c (reflL c i x) r)) = x
      rw [h5, refl2 hc hi h.1]
    · exact subT_far hc r hr h
theorem subT_sub (c : List (List Int)) : ∀ (w x : List Int), (subT c x w).Sublist w
  | [], x => List.Sublist.refl _
  | i :: r, x => by
    simp only [subT]
    split
    · exact (subT_sub c r _).cons_cons i
    · exact (subT_sub c r x).cons i
theorem subL_get (c : List (List Int)) : ∀ (w x : List Int) (k : Int) (y : List Int) (m : Nat), k = m → (∀ j, j < w.length → y.getD (m + j) 0 = w.getD j 0) → (subL c x w k).map (fun p => y.getD p.toNat 0) = subT c x w
  | [], x, k, y, m, _, _ => rfl
  | i :: r, x, k, y, m, hk, hy => by
    have hi := hy 0 (by simp)
    have hr : ∀ j, j < r.length → y.getD (m + 1 + j) 0 = r.getD j 0 := fun j hj => by
      have := hy (j + 1) (by simp; omega)
      rw [show m + 1 + j = m + (j + 1) by omega, this]; simp
    simp only [subL, subT]
    split
    · rw [List.map_cons, subL_get c r _ (k + 1) y (m + 1) (by omega) hr]
      have e : k.toNat = m := by omega
      rw [e]
      have : y.getD m 0 = i := by simpa using hi
      rw [this]
    · exact subL_get c r x (k + 1) y (m + 1) (by omega) hr
theorem subL_range (c : List (List Int)) : ∀ (w x : List Int) (k : Int), ∀ p ∈ subL c x w k, k ≤ p ∧ p < k + w.length
  | [], x, k, p, hp => by simp [subL] at hp
  | i :: r, x, k, p, hp => by
    simp only [subL] at hp
    simp only [List.length_cons]
    split at hp
    · rcases List.mem_cons.1 hp with rfl | hp
      · omega
      · have := subL_range c r _ (k + 1) p hp; omega
    · have := subL_range c r _ (k + 1) p hp; omega
theorem sub_places {c : List (List Int)} {u v : List Int} (hu : wordB c u = true) (hv : wordB c v = true) (h : brB c u v = true) :
    (subW c u v).map (fun p => (redL c v).getD p.toNat 0) = subT c (imageL c u) (redL c v) ∧ imageL c (subT c (imageL c u) (redL c v)) = imageL c u ∧ (subT c (imageL c u) (redL c v)).length = (redL c u).length ∧ letters c.length (subT c (imageL c u) (redL c v)) ∧ ∀ p ∈ subW c u v, 0 ≤ p ∧ p < ((redL c v).length : Int) := by
  obtain ⟨hc, u1, u2⟩ := wordB_iff.1 hu
  obtain ⟨_, v1, v2⟩ := wordB_iff.1 hv
  obtain ⟨a1, a2, a3, a4, a5⟩ := red_spec hc u2 (by omega)
  obtain ⟨b1, b2, b3, b4, b5⟩ := red_spec hc v2 (by omega)
  have hb : belB c (imageL c u) (redL c v) = true := by
    revert h; unfold brB; rw [hu, hv]; simp
  obtain ⟨M, m1, m2, m3⟩ := subT_far hc _ b1 a5
  have hM : M = 0 := by
    have : fstN (belV c (imageL c u) (redL c v)) < 0 := by simpa [belB] using hb
    exact (fst_zero hc m1).1 this
  subst hM
  have hz := m1.zero
  have e : subW c u v = subL c (imageL c u) (redL c v) 0 := by unfold subW; rw [if_pos h]
  rw [e]
  refine ⟨subL_get c _ _ 0 _ 0 rfl (fun j _ => by rw [Nat.zero_add]), ?_, by omega, letters_sub (subT_sub ..) b1, fun p hp => ?_⟩
  · rw [hz] at m3; exact m3
  · have := subL_range c _ _ 0 p hp; omega
end Go.Proofs.YtojcdgdbffmlpaaGreat
namespace Go.Proofs.YtojcdgdbffmlpaaGreat
open Go Go.Aw Go.Cox
theorem moe_on {c : List (List Int)} {u v : List Int} (h : itvB c u v = true) (hb : brB c u v = true) : moZ c u v = eps u * eps v := by
  have hl : lowB c v = true := by revert h; unfold itvB; cases lowB c v <;> simp
  have hu : wordB c u = true := by revert h; unfold itvB; cases wordB c u <;> simp
  have hv := lowB_word hl
  obtain ⟨nv, lv⟩ := word_nf hv
  obtain ⟨hc, u1, u2⟩ := wordB_iff.1 hu
  obtain ⟨a1, a2, a3, a4, a5⟩ := red_spec hc u2 (by omega)
  have hm : redL c v ∈ itvX c u v := (itvX_iff h _).2 ⟨Low.self nv, by rw [a4]; exact (br_iff hu hv).1 hb⟩
  unfold moZ
  rw [if_pos (List.length_pos_of_mem hm)]
theorem moe_off {c : List (List Int)} {u v : List Int} (h : itvB c u v = true) (hb : brB c u v = false) : moZ c u v = 0 := by
  have hl : lowB c v = true := by revert h; unfold itvB; cases lowB c v <;> simp
  have hu : wordB c u = true := by revert h; unfold itvB; cases wordB c u <;> simp
  have hv := lowB_word hl
  obtain ⟨nu, lu⟩ := word_nf hu
  obtain ⟨nv, lv⟩ := word_nf hv
  obtain ⟨hc, u1, u2⟩ := wordB_iff.1 hu
  obtain ⟨a1, a2, a3, a4, a5⟩ := red_spec hc u2 (by omega)
  unfold moZ
  rw [if_neg fun hp => ?_]
  obtain ⟨z, hz⟩ := List.exists_mem_of_length_pos hp
  obtain ⟨p1, p2⟩ := (itvX_iff h z).1 hz
  have hs := (p1.trans hc ⟨nu, p2⟩ nv.1).2
  rw [a4] at hs
  rw [(br_iff hu hv).2 hs] at hb
  cases hb
theorem bcv_below {c : List (List Int)} {w : List Int} {z : List Int} (h : z ∈ bcv c w) : brB c z w = true := by
  cases hw : wordB c w with
  | false => rw [show bcv c w = [] by unfold bcv; rw [hw]; rfl] at h; cases h
  | true =>
    have e : bcv c w = srt (bcT c (redL c w) (redL c w).length) := by unfold bcv; rw [hw]; rfl
    rw [e, (srt_spec _).2] at h
    obtain ⟨nw, lw⟩ := word_nf hw
    have hc := (wordB_iff.1 hw).1
    obtain ⟨h1, h2⟩ := bcT_low hc nw h
    have hz : wordB c z = true := wordB_iff.2 ⟨hc, by omega, h1.1.1⟩
    exact (br_iff hz hw).2 h1.2
end Go.Proofs.YtojcdgdbffmlpaaGreat

/- The elements below an element in the weak order: what the reference does. -/
import Derived.Test.YtojcdgdbffmlpaaGreatB13
import Derived.Test.YtojcdgdbffmlpaaGreatB11
import Derived.Test.YtojcdgdbffmlpaaGreatB12
import Derived.KernelRfl
set_option linter.unusedVariables false
set_option linter.unusedSimpArgs false
namespace Go.Proofs.YtojcdgdbffmlpaaGreat
open Go Go.Aw Go.Cox
theorem rwg (ys : List (Nat × List Int)) (k : Nat) : (ys.getD k (0, [])).2 = (rw2 ys).getD k [] := by
  unfold rw2
  simp only [List.getD, List.getElem?_map]
  cases ys[k]? <;> rfl
theorem rwl (ys : List (Nat × List Int)) : (rw2 ys).length = ys.length := by simp [rw2]
theorem putS_len (w : List Int) : ∀ (b : Bool) (l : List (List Int)), (putS w b l).length ≤ l.length + 1
  | b, [] => by cases b <;> simp [putS]
  | b, x :: l => by
    simp only [putS]
    split
    · rw [putS_true]; simp
    · have := putS_len w (b || cmpW w x == 0) l; simp; omega
theorem putS_keep (w : List Int) : ∀ (l : List (List Int)) (k : Nat), (∀ j, j ≤ k → j < l.length ∧ 0 < cmpW w (l.getD j [])) → ∀ j, j ≤ k → j < (putS w false l).length ∧ (putS w false l).getD j [] = l.getD j []
  | [], k, h, j, hj => by have := (h 0 (Nat.zero_le _)).1; simp at this
  | x :: l, k, h, j, hj => by
    have h0 : 0 < cmpW w x := (h 0 (Nat.zero_le _)).2
    simp only [putS]
    rw [if_neg (by omega), show (false || cmpW w x == 0) = false by simp; omega]
    cases j with
    | zero => exact ⟨by simp, rfl⟩
    | succ j =>
      cases k with
      | zero => omega
      | succ k =>
        have ih := putS_keep w l k (fun j hj => by
          have := h (j + 1) (by omega)
          exact ⟨by simpa using this.1, by simpa using this.2⟩) j (by omega)
        exact ⟨by simp; omega, by simpa using ih.2⟩
theorem cmp_long {a b : List Int} (h : a.length < b.length) : 0 < cmpW b a := by
  unfold cmpW
  rw [if_neg (by omega), if_pos (by omega)]; omega
theorem putS_keepk {w : List Int} {l : List (List Int)} (hs : StrictW l) {k : Nat} (hk : k < l.length) (hlt : (l.getD k []).length < w.length) : ∀ j, j ≤ k → j < (putS w false l).length ∧ (putS w false l).getD j [] = l.getD j [] :=
  putS_keep w l k fun j hj => by
    refine ⟨by omega, ?_⟩
    by_cases e : j = k
    · rw [e]; exact cmp_long hlt
    · have h1 := List.pairwise_iff_getElem.1 hs j k (by omega) hk (by omega)
      have h2 : cmpW (l.getD k []) w < 0 := by have := cmpW_neg w (l.getD k []); have := cmp_long hlt; omega
      rw [getD_eq hk] at h2
      have h3 := cmpW_lt_trans h1 h2
      rw [getD_eq (by omega : j < l.length)]
      have := cmpW_neg w l[j]
      omega
theorem wcv_nf {c : List (List Int)} {y z : List Int} (hW : wordB c y = true) (h : z ∈ wcv c y) : Nf c z ∧ z.length ≤ 15 ∧ (redL c y).length < z.length := by
  obtain ⟨hc, h2, h3⟩ := wordB_iff.1 hW
  unfold wcv at h
  rw [hW, if_pos rfl, (srt_spec _).2] at h
  unfold wkT at h
  obtain ⟨i, hi, hf⟩ := List.mem_filterMap.1 h
  obtain ⟨rfl, q1, q2⟩ := wkF_some hf
  have hi : i < c.length := by simpa using hi
  exact ⟨nf_red hc (letters_append.2 ⟨h3, letter1 hi⟩) (by simp; omega) (by have : (covL c y i).length ≤ 15 := q2; unfold covL at this; omega), q2, q1⟩
theorem wcv_has {c : List (List Int)} {y : List Int} (hW : wordB c y = true) {a : Nat} (ha : a < c.length) (h1 : (redL c y).length < (redL c (y ++ [(a : Int)])).length) (h2 : (redL c (y ++ [(a : Int)])).length ≤ 15) : redL c (y ++ [(a : Int)]) ∈ wcv c y := by
  unfold wcv
  rw [hW, if_pos rfl, (srt_spec _).2]
  unfold wkT
  exact List.mem_filterMap.2 ⟨a, by simpa using ha, by unfold wkF covL; rw [if_pos ⟨h1, h2⟩]⟩
def DoneU (c : List (List Int)) (x : List Int) (L : List (List Int)) (k : Nat) : Prop := ∀ j, j < L.length → j < k → ∀ a, a < c.length → (L.getD j []).length < (redL c (L.getD j [] ++ [(a : Int)])).length → Pre c x (redL c (L.getD j [] ++ [(a : Int)])) → redL c (L.getD j [] ++ [(a : Int)]) ∈ L
set_option maxHeartbeats 4000000 in
theorem c_spec_PrefixesOfR (c : List (List Int)) (w : List Int) (hcl : c.length ≤ 1048576) :
    FunA B 46 [.sl false (.row false) c, .sl false .int w] (fun rs o => ∃ ys g nn rest, (rw2 ys = preX c w ∧ nn = true ∧ rest = [.bool (preB c w)]) ∧ (lb1 ys).Nodup ∧ rest.all flatAV = true ∧ rs = .own 0 g :: rest ∧ o = [.arr .lrow ys g nn]) := by
  refine FunA.walk B_ok (fn := Tryz.f46) (fun vs w => Tryz.call46 vs w) Tryz.func46 rfl (by rw [Tryz.ntmps46]; simp) (fun C hC hP hT hΓ hbt hfn hpin hfin => ?_); have hX := BX; rw [← hΓ, ← hbt.1, ← hbt.2] at hX; rw [Tryz.ntmps46]; simp only [AW7, simprocAttr, hX]
  refine Run.R ?_
  refine Run.nq ?_; refine Run.regionW hC (fun K hK => ?_); refine wW ?_
  refine FunA.cW hP hT (c_spec_NormalForm c w hcl) ?_
  rintro rs o ⟨rfl, rfl⟩
  refine wW ?_
  refine wE ?_; clear hK K
  refine Run.R ?_
  refine Run.nq ?_; refine Run.cW ?_ ?_
  · intro h
    have h : wordB c w = false := by simpa using h
    refine Run.R ?_
    refine Run.reK hpin [4, 5] [1] (by decide) (by simp) ?_; simp only [AR, AW7, simprocAttr]
    refine Run.rW [4, 5] (hfin _ _ rfl rfl ?_)
    exact ⟨[], 0, true, [.bool false], ⟨by unfold preX; rw [h]; rfl, rfl, by unfold preB; rw [h]; rfl⟩, by simp [lb1], rfl, rfl, rfl⟩
  intro h
  have hwb : wordB c w = true := by simpa using h
  obtain ⟨hc, hw2, hw3⟩ := wordB_iff.1 hwb
  have hn := hc.2.1
  obtain ⟨hx, hx15⟩ := word_nf hwb
  rw [nfW_on hwb]
  have hpX : preX c w = fewL (Pre c (redL c w)) := by unfold preX; rw [hwb]; rfl
  have hpB : preB c w = fewB (Pre c (redL c w)) := by unfold preB; rw [hwb]; rfl
  generalize hgx : redL c w = x at *
  have hWx : wordB c x = true := wordB_iff.2 ⟨hc, hx15, hx.1⟩
  refine Run.nq ?_; refine Run.regionW hC (fun K hK => ?_); refine wW ?_
  intro q hq
  (repeat (with_reducible refine And.intro ?_ ?_); exact vc0)
  refine wE ?_; clear hK K
  refine Run.R ?_
  refine Run.reK hpin [0, 6, 8, 9] [2, 0] (by decide) (by simp) ?_; simp only [AR, AW7, simprocAttr]
  refine Run.loopI (X := List (Nat × List Int) × Nat) (fun s => ⟨68, [(0, true, .v (.sl false (.row false) (c))), (6, true, .v (.own 1 0)), (8, true, .v (.own 0 0)), (9, true, .v (.int .i64 (s.2)))], [.arr .lrow (s.1) 0 true, .arr .int (x) 0 true]⟩) (fun s => (s.2 ≤ s.1.length ∧ s.1.length ≤ 200) ∧ (lb1 s.1).Nodup ∧ StrictW (rw2 s.1) ∧ (∀ z ∈ rw2 s.1, Pre c x z) ∧ [] ∈ rw2 s.1 ∧ DoneU c x (rw2 s.1) s.2) (fun s => 201 - s.2) (([(q, [])], 0)) (⟨⟨by simp, by simp⟩, by simp [lb1], by unfold StrictW; simp [rw2], fun z hz => by simp [rw2] at hz; rw [hz]; exact Pre.nil hc hx, by simp [rw2], fun j _ hj => by omega⟩) ?_ ?_
  · exact Le.sub (by first | rfl | simp) (by simp only [AW7, simprocAttr, hX]; try simp <;> try (first | rfl | exact ⟨rfl, rfl⟩ | exact ⟨rfl, rfl, rfl⟩))
  rintro ⟨ys, k⟩ ⟨⟨hk, hyl⟩, hN, hS, hPr, h0m, hD⟩ ihO
  try simp only []
  simp only [] at hk hyl hN hS hPr h0m hD
  clear hq
  refine Run.R ?_
  refine Run.nq ?_; refine Run.cW ?_ ?_
  rotate_left
  · intro h3
    have hke : k = ys.length := by rw [decide_eq_false_iff_not] at h3; omega
    have hcomp : ∀ z, z ∈ rw2 ys ↔ Pre c x z := Pre.mem_up hc hx hPr h0m (fun y hy i hi hlt hpi => by
      obtain ⟨j, hj, rfl⟩ := mem_rw2_iff.1 hy
      rw [rwg] at hlt hpi ⊢
      exact hD j (by rw [rwl]; exact hj) (by omega) i hi hlt hpi)
    have hnd : (rw2 ys).Nodup := List.Pairwise.imp (fun {a b} h e => by rw [e, cmpW_self] at h; omega) hS
    obtain ⟨e1, e2⟩ := few_on hnd hcomp (by rw [rwl]; exact hyl)
    refine Run.exit rfl ?_; refine Run.nq ?_
    refine Run.R ?_
    refine Run.reK hpin [4, 5] [0] (by decide) (by simp) ?_; simp only [AR, AW7, simprocAttr]
    refine Run.rW [4, 5] (hfin _ _ rfl rfl ?_)
    exact ⟨ys, 0, true, [.bool true], ⟨by rw [hpX, e2]; exact (srt_id hS).symm, rfl, by rw [hpB, e1]⟩, hN, rfl, rfl, rfl⟩
  intro h3
  have h3 : k < ys.length := by rw [decide_eq_true_eq] at h3; omega
  have hyp := hPr _ (mem_rw2 h3)
  have hny := hyp.nf hx
  have hgy := rwg ys k
  generalize hgy2 : (ys.getD k (0, [])).2 = y at *
  have hy15 : y.length ≤ 15 := by obtain ⟨_, _, v, _, _, h5⟩ := hyp; omega
  have hWy : wordB c y = true := wordB_iff.2 ⟨hc, hy15, hny.1⟩
  refine Run.nq ?_; refine Run.regionW hC (fun K hK => ?_); refine wW ?_
  simp only [hgy2]
  refine FunA.cW hP hT (c_spec_WeakCoversR c y hcl) ?_
  rintro rs o ⟨cs, g, nn, rest, ⟨hcs, rfl, rfl⟩, hcn, _, rfl, rfl⟩
  refine wW ?_
  refine wE ?_; clear hK K
  refine Run.R ?_
  refine Run.reK hpin [0, 6, 8, 9, 10, 11] [0, 1, 2] (by decide) (by simp) ?_; simp only [AR, AW7, simprocAttr]
  have hcl2 := wcv_len c y
  rw [← hcs, rwl] at hcl2
  refine Run.loopI (X := List (Nat × List Int) × Nat) (fun s => ⟨68, [(0, true, .v (.sl false (.row false) (c))), (6, true, .v (.own 1 0)), (8, true, .v (.own 0 0)), (9, true, .v (.int .i64 (k))), (10, true, .v (.own 2 0)), (11, true, .v (.int .i64 (s.2)))], [.arr .lrow (s.1) 0 true, .arr .int (x) 0 true, .arr .lrow (cs) 0 true]⟩) (fun s => (k < s.1.length ∧ s.1.length ≤ 200 ∧ s.2 ≤ cs.length) ∧ (lb1 s.1).Nodup ∧ StrictW (rw2 s.1) ∧ (∀ z ∈ rw2 s.1, Pre c x z) ∧ [] ∈ rw2 s.1 ∧ DoneU c x (rw2 s.1) k ∧ (rw2 s.1).getD k [] = y ∧ ∀ m, m < s.2 → Pre c x ((rw2 cs).getD m []) → (rw2 cs).getD m [] ∈ rw2 s.1) (fun s => cs.length - s.2) ((ys, 0)) (⟨⟨h3, hyl, Nat.zero_le _⟩, hN, hS, hPr, h0m, hD, hgy.symm, fun m hm => by omega⟩) ?_ ?_
  · exact Le.sub (by first | rfl | simp) (by simp only [AW7, simprocAttr, hX]; try simp <;> try (first | rfl | exact ⟨rfl, rfl⟩ | exact ⟨rfl, rfl, rfl⟩))
  rintro ⟨ys2, i⟩ ⟨⟨hk2, hyl2, hi⟩, hN2, hS2, hPr2, h0m2, hD2, hyk, hM⟩ ih
  try simp only []
  simp only [] at hk2 hyl2 hi hN2 hS2 hPr2 h0m2 hD2 hyk hM
  clear hN hS hPr h0m hD
  refine Run.R ?_
  refine Run.nq ?_; refine Run.cW ?_ ?_
  rotate_left
  · intro h4
    have hie : i = cs.length := by rw [decide_eq_false_iff_not] at h4; omega
    have hD3 : DoneU c x (rw2 ys2) (k + 1) := by
      intro j hj hjk a ha
      by_cases e : j = k
      · rw [e, hyk]
        intro hlt hpi
        have hpl : (redL c (y ++ [(a : Int)])).length ≤ 15 := by obtain ⟨_, _, v, _, _, h5⟩ := hpi; omega
        have hin := wcv_has hWy ha (by rw [hny.2.1]; exact hlt) hpl
        rw [← hcs] at hin
        obtain ⟨m, hm, e2⟩ := mem_rw2_iff.1 hin
        rw [rwg] at e2
        rw [← e2] at hpi ⊢
        exact hM m (by omega) hpi
      · exact hD2 j hj (by omega) a ha
    refine Run.exit rfl ?_; refine Run.nq ?_
    refine Run.reK hpin [0, 6, 8, 9] [0, 1] (by decide) (by simp) ?_; simp only [AR, AW7, simprocAttr]
    refine Run.RW ?_
    refine Run.le ?_ (ihO ((ys2, k + 1)) (⟨⟨hk2, hyl2⟩, hN2, hS2, hPr2, h0m2, hD3⟩) (by (try simp only [List.length_append, List.length_cons, List.length_nil]); omega))
    exact Le.sub (by rfl) (by simp only [AW7, simprocAttr]; try simp)
  intro h4
  have h4 : i < cs.length := by rw [decide_eq_true_eq] at h4; omega
  have hzm := mem_rw2 h4
  rw [hcs] at hzm
  obtain ⟨hnz, hz15, hzy⟩ := wcv_nf hWy hzm
  rw [hny.2.1] at hzy
  have hzg := rwg cs i
  generalize hgz : (cs.getD i (0, [])).2 = z at *
  have hwz := wkB_pre hc hx hx15 hnz hz15
  have hrl : ∀ r ∈ ys2.map (·.2), r.length ≤ 1048576 := fun r hr => by
    have := ((hPr2 r hr).nf hx).2.2; omega
  refine Run.nq ?_; refine Run.regionW hC (fun K hK => ?_); refine wW ?_
  simp only [hgz]
  refine FunA.cW hP hT (c_spec_IsWeakBelow c z x hcl) ?_
  rintro rs o ⟨rfl, rfl⟩
  refine wW ?_
  simp only [hgz]
  refine .inl (FunA.callG hP hT (c_spec_l7In (ys2.map (·.2)) z (by simp; omega) hrl) (fun _ => rfl) (fun _ => by simp only [AW7, simprocAttr]) ?_)
  refine wW ?_
  refine wE ?_; clear hK K
  have hmap : ys2.map (·.2) = rw2 ys2 := rfl
  refine Run.nq ?_; refine Run.cW ?_ ?_
  · intro h5
    have h5 : Pre c x z ∧ z ∉ rw2 ys2 := by
      cases hwk : wkB c z x with
      | false => rw [hwk] at h5; cases h5
      | true =>
        rw [hwk] at h5
        have h5 : (!decide (z ∈ rw2 ys2)) = true := h5
        exact ⟨hwz.1 hwk, by simpa using h5⟩
    refine Run.R ?_
    refine Run.nq ?_; refine Run.cW ?_ ?_
    · intro h6
      have h6 : 200 ≤ ys2.length := by rw [decide_eq_true_eq] at h6; omega
      have hnd : (rw2 ys2).Nodup := List.Pairwise.imp (fun {a b} h e => by rw [e, cmpW_self] at h; omega) hS2
      obtain ⟨e1, e2⟩ := few_off (L := z :: rw2 ys2) (List.nodup_cons.2 ⟨h5.2, hnd⟩) (fun t ht => by
        rcases List.mem_cons.1 ht with rfl | ht
        · exact h5.1
        · exact hPr2 t ht) (by simp [rw2]; omega)
      refine Run.R ?_
      refine Run.reK hpin [4, 5] [3] (by decide) (by simp) ?_; simp only [AR, AW7, simprocAttr]
      refine Run.rW [4, 5] (hfin _ _ rfl rfl ?_)
      exact ⟨[], 0, true, [.bool false], ⟨by rw [hpX, e2]; rfl, rfl, by rw [hpB, e1]⟩, by simp [lb1], rfl, rfl, rfl⟩
    intro h6
    have h6 : ys2.length < 200 := by rw [decide_eq_false_iff_not] at h6; omega
    have hkr : k < (rw2 ys2).length := by rw [rwl]; exact hk2
    have hkeep := putS_keepk hS2 (w := z) hkr (by rw [hyk]; exact hzy)
    have hpl := putS_len z false (rw2 ys2)
    rw [rwl] at hpl
    refine Run.nq ?_; refine Run.regionW hC (fun K hK => ?_); refine wW ?_
    simp only [hgz]
    refine FunM.call hP hT (c_spec_l11Put ys2 z hN2 (by omega) (by omega) true) 0 0 (by simp only [AW7, simprocAttr]; rfl) (by simp) rfl (by simp only [AW7, simprocAttr]; try simp) ?_
    rintro rs o' obs' ⟨rfl, ys', hE3, hN3, h7⟩
    obtain ⟨rfl, rfl⟩ := List.cons.inj h7
    refine wW ?_
    refine wE ?_; clear hK K
    rw [← hE3] at hkeep hpl
    rw [rwl] at hpl
    have hmem : ∀ t, t ∈ rw2 ys' ↔ t = z ∨ t ∈ rw2 ys2 := fun t => by rw [hE3]; exact putS_mem z _ t
    have hS3 : StrictW (rw2 ys') := by rw [hE3]; exact putS_strict z hS2
    have hP3 : ∀ t ∈ rw2 ys', Pre c x t := fun t ht => by
      rcases (hmem t).1 ht with rfl | ht
      · exact h5.1
      · exact hPr2 t ht
    have hD3 : DoneU c x (rw2 ys') k := fun j hj hjk a ha => by
      rw [(hkeep j (by omega)).2]
      intro hlt hpi
      exact (hmem _).2 (.inr (hD2 j (by omega) hjk a ha hlt hpi))
    have hy3 : (rw2 ys').getD k [] = y := by rw [(hkeep k (Nat.le_refl _)).2]; exact hyk
    have hM3 : ∀ m, m < i + 1 → Pre c x ((rw2 cs).getD m []) → (rw2 cs).getD m [] ∈ rw2 ys' := fun m hm hpi => by
      by_cases e : m = i
      · rw [e, ← hzg]; exact (hmem _).2 (.inl rfl)
      · exact (hmem _).2 (.inr (hM m (by omega) hpi))
    have hk3 : k < ys'.length := by have := (hkeep k (Nat.le_refl _)).1; rw [rwl] at this; exact this
    refine Run.reK hpin [0, 6, 8, 9, 10, 11] [3, 1, 2] (by decide) (by simp) ?_; simp only [AR, AW7, simprocAttr]
    refine Run.RW ?_
    refine Run.le ?_ (ih ((ys', i + 1)) (⟨⟨hk3, by simp only []; omega, h4⟩, hN3, hS3, hP3, (hmem _).2 (.inr h0m2), hD3, hy3, hM3⟩) (by (try simp only [List.length_append, List.length_cons, List.length_nil]); omega))
    exact Le.sub (by rfl) (by simp only [AW7, simprocAttr]; try simp)
  intro h5
  have hM3 : ∀ m, m < i + 1 → Pre c x ((rw2 cs).getD m []) → (rw2 cs).getD m [] ∈ rw2 ys2 := fun m hm hpi => by
    by_cases e : m = i
    · rw [e, ← hzg] at hpi ⊢
      rw [hwz.2 hpi] at h5
      have h5 : (!decide (z ∈ rw2 ys2)) = false := h5
      simpa using h5
    · exact hM m (by omega) hpi
  refine Run.reK hpin [0, 6, 8, 9, 10, 11] [0, 1, 2] (by decide) (by simp) ?_; simp only [AR, AW7, simprocAttr]
  refine Run.RW ?_
  refine Run.le ?_ (ih ((ys2, i + 1)) (⟨⟨hk2, hyl2, h4⟩, hN2, hS2, hPr2, h0m2, hD2, hyk, hM3⟩) (by (try simp only [List.length_append, List.length_cons, List.length_nil]); omega))
  exact Le.sub (by rfl) (by simp only [AW7, simprocAttr]; try simp)
theorem c_spec_PrefixesOf (c : List (List Int)) (w : List Int) (hcl : c.length ≤ 1048576) :
    FunA B 46 [.sl false (.row false) c, .sl false .int w] (fun rs o => rs = [.own 0 0, .bool (preB c w)] ∧ ∃ hs, hs.length = (preX c w).length ∧ o = [.mat hs (preX c w) 0 true]) :=
  (FunA.mat (by rfl) (post := fun rows nn rest => rows = preX c w ∧ nn = true ∧ rest = [.bool (preB c w)]) (c_spec_PrefixesOfR c w hcl)).mono fun rs o ⟨hs, rows, nn, rest, ⟨h1, h2, h3⟩, h4, h5, h6⟩ => by subst h1 h2 h3; exact ⟨h5, hs, h4, h6⟩
end Go.Proofs.YtojcdgdbffmlpaaGreat
namespace Go.Proofs.YtojcdgdbffmlpaaGreat
open Go Go.Aw Go.Cox
def Fst (c : List (List Int)) (x : List Int) (i : Nat) : Prop := (imageL c x).getD i 0 < 0
theorem front {c : List (List Int)} (hc : CartanP c) {x : List Int} (hx : Nf c x) {i : Nat} (hi : i < c.length) (h : Fst c x i) : Nf c (redL c ((i : Int) :: x)) ∧ (redL c ((i : Int) :: x)).length + 1 = x.length ∧ imageL c (redL c ((i : Int) :: x)) = reflL c i (imageL c x) := by
  have hlet : letters c.length ((i : Int) :: x) := letters_cons.2 ⟨by omega, hx.1⟩
  have hlen : ((i : Int) :: x).length ≤ 31 := by have := hx.2.2; simp; omega
  obtain ⟨a1, a2, a3, a4, a5⟩ := red_spec hc hlet hlen
  obtain ⟨M, hM, hF⟩ := (hx.far hc).down hc (i := (i : Int)) (by omega) h
  have hL : (redL c ((i : Int) :: x)).length = M := by
    rw [image_cons] at a5
    exact a5.uniq hc hF
  exact ⟨nf_red hc hlet hlen (by have := hx.2.2; omega), by omega, by rw [a4, image_cons]⟩
theorem refl_at {c : List (List Int)} (hc : CartanP c) {i : Nat} (hi : i < c.length) {v : List Int} (hv : v.length = c.length) : (reflL c i v).getD i 0 = - v.getD i 0 := by
  have d : ent c i i = 2 := (matA_cartan hc).diag i hi
  have g := reflL_get c (i : Int) v i (by omega)
  rw [Int.toNat_natCast, d] at g
  omega
theorem fst_or {c : List (List Int)} (hc : CartanP c) {x : List Int} (hx : Nf c x) {i : Nat} (hi : i < c.length) : Fst c x i ∨ Far c (x.length + 1) (reflL c i (imageL c x)) := by
  have hz := (hx.far hc).nz hc i hi
  by_cases h : (imageL c x).getD i 0 < 0
  · exact .inl h
  · exact .inr ((hx.far hc).up hc (i := (i : Int)) (by omega) (by simp only [Int.toNat_natCast]; omega))
theorem front_down {c : List (List Int)} (hc : CartanP c) {x z : List Int} (hx : Nf c x) (hz : Pre c x z) {i : Nat} (hi : i < c.length) (h : Fst c z i) : Fst c x i ∧ Pre c (redL c ((i : Int) :: x)) (redL c ((i : Int) :: z)) := by
  have hnz := hz.nf hx
  obtain ⟨n1, n2, n3⟩ := front hc hnz hi h
  obtain ⟨h1, h2, v, h3, h4, h5⟩ := hz
  have him : imageL c (redL c ((i : Int) :: z) ++ v) = reflL c i (imageL c x) := by
    rw [image_same_app hc n1.1 (letters_cons.2 ⟨by omega, h1⟩ : letters c.length ((i : Int) :: z)) (by rw [n3, image_cons]) v]
    show reflL c i (imageL c (z ++ v)) = _
    rw [h4]
  have hlv : letters c.length (redL c ((i : Int) :: z) ++ v) := letters_append.2 ⟨n1.1, h3⟩
  have hfx : Fst c x i := by
    rcases fst_or hc hx hi with h6 | h6
    · exact h6
    · obtain ⟨L, k1, _, k3⟩ := Far.image hc hlv
      rw [him] at k3
      have := h6.uniq hc k3
      simp at k1
      omega
  obtain ⟨m1, m2, m3⟩ := front hc hx hi hfx
  exact ⟨hfx, n1.1, n1.2.1, v, h3, by rw [him, m3], by omega⟩
theorem front_up {c : List (List Int)} (hc : CartanP c) {x z : List Int} (hx : Nf c x) {i : Nat} (hi : i < c.length) (h : Fst c x i) (hz : Pre c (redL c ((i : Int) :: x)) z) :
    Pre c x (redL c ((i : Int) :: z)) ∧ (redL c ((i : Int) :: z)).length = z.length + 1 ∧ Fst c (redL c ((i : Int) :: z)) i ∧ redL c ((i : Int) :: redL c ((i : Int) :: z)) = z := by
  obtain ⟨m1, m2, m3⟩ := front hc hx hi h
  have hnz := hz.nf m1
  obtain ⟨h1, h2, v, h3, h4, h5⟩ := hz
  have hlet : letters c.length ((i : Int) :: z) := letters_cons.2 ⟨by omega, h1⟩
  have hzl : ((i : Int) :: z).length ≤ 31 := by have := hnz.2.2; simp; omega
  obtain ⟨a1, a2, a3, a4, a5⟩ := red_spec hc hlet hzl
  have him : imageL c (redL c ((i : Int) :: z) ++ v) = imageL c x := by
    rw [image_same_app hc a1 hlet a4 v]
    show reflL c i (imageL c (z ++ v)) = _
    rw [h4, m3, refl2 hc (i := (i : Int)) (by omega) (imageL_length c _)]
  have hs := hx.short hc (letters_append.2 ⟨a1, h3⟩) him
  simp at hs a2
  have hlen : (redL c ((i : Int) :: z)).length = z.length + 1 := by omega
  have hback : imageL c ((i : Int) :: redL c ((i : Int) :: z)) = imageL c z := by
    rw [image_cons, a4, image_cons, refl2 hc (i := (i : Int)) (by omega) (imageL_length c _)]
  refine ⟨⟨a1, nf_idem hc hlet hzl, v, h3, him, by omega⟩, hlen, ?_, by rw [red_eq hback]; exact h2⟩
  show (imageL c (redL c ((i : Int) :: z))).getD i 0 < 0
  rw [a4, image_cons, refl_at hc hi (imageL_length c _)]
  rcases fst_or hc hnz hi with h6 | h6
  · obtain ⟨_, q2, q3⟩ := front hc hnz hi h6
    omega
  · have hp := (hnz.far hc).nz hc i hi
    by_cases h7 : (imageL c z).getD i 0 < 0
    · obtain ⟨_, q2, q3⟩ := front hc hnz hi h7
      omega
    · omega
def Two (c : List (List Int)) (i t : Nat) (q : List Int) : Prop := Fst c q i ∧ Fst c q t ∧ ∀ x, Nf c x → Fst c x i → Fst c x t → Pre c x q
theorem first_of {c : List (List Int)} (hc : CartanP c) {x : List Int} (hx : Nf c x) (hne : x ≠ []) : ∃ i, i < c.length ∧ Fst c x i := by
  cases x with
  | nil => exact (hne rfl).elim
  | cons a x =>
    obtain ⟨h1, h2⟩ := letters_cons.1 hx.1
    have ha : ((a.toNat : Nat) : Int) = a := by omega
    refine ⟨a.toNat, by omega, ?_⟩
    rcases fst_or hc hx (i := a.toNat) (by omega) with h | h
    · exact h
    · exfalso
      have e : reflL c (a.toNat : Nat) (imageL c (a :: x)) = imageL c x := by
        rw [ha, image_cons]; exact refl2 hc h1 (imageL_length c _)
      rw [e] at h
      obtain ⟨L, k1, _, k3⟩ := Far.image hc h2
      have := h.uniq hc k3
      simp at this
      omega
theorem meet_le {c : List (List Int)} (hc : CartanP c) (h2 : ∀ i t, i < c.length → t < c.length → i ≠ t → (∃ x, Nf c x ∧ Fst c x i ∧ Fst c x t) → ∃ q, Two c i t q) :
    ∀ (n : Nat) (x y z w : List Int), x.length = n → Nf c x → Nf c y → Pre c x z → Pre c y z → Pre c x w → Pre c y w → (∀ u, Pre c x u → Pre c y u → u.length ≤ z.length) → Pre c z w := by
  intro n
  induction n with
  | zero =>
    intro x y z w hn hx hy hz _ hw _ _
    obtain ⟨_, _, v, _, _, h5⟩ := hw
    have : w = [] := List.eq_nil_of_length_eq_zero (by omega)
    rw [this]; exact Pre.nil hc (hz.nf hx)
  | succ n ih =>
    intro x y z w hn hx hy hxz hyz hxw hyw hmax
    have hnz := hxz.nf hx
    have same : ∀ (i : Nat) (w : List Int), i < c.length → Pre c x w → Pre c y w → Fst c z i → Fst c w i → Pre c z w := by
      intro i w hi hxw hyw hzi hwi
      have hnw := hxw.nf hx
      obtain ⟨f1, g1⟩ := front_down hc hx hxz hi hzi
      obtain ⟨_, g2⟩ := front_down hc hy hyz hi hzi
      obtain ⟨_, g3⟩ := front_down hc hx hxw hi hwi
      obtain ⟨f2, g4⟩ := front_down hc hy hyw hi hwi
      obtain ⟨m1, m2, _⟩ := front hc hx hi f1
      obtain ⟨m3, m4, _⟩ := front hc hy hi f2
      obtain ⟨m5, m6, m7⟩ := front hc hnz hi hzi
      obtain ⟨m8, m9, m10⟩ := front hc hnw hi hwi
      have key := ih _ _ _ _ (by omega) m1 m3 g1 g2 g3 g4 (fun u hu1 hu2 => by
        obtain ⟨p1, p2, _⟩ := front_up hc hx hi f1 hu1
        obtain ⟨p3, _⟩ := front_up hc hy hi f2 hu2
        have := hmax _ p1 p3
        omega)
      obtain ⟨p1, _⟩ := front_up hc hnz hi hzi key
      have e : redL c ((i : Int) :: redL c ((i : Int) :: w)) = w := by
        have : imageL c ((i : Int) :: redL c ((i : Int) :: w)) = imageL c w := by
          rw [image_cons, m10, refl2 hc (i := (i : Int)) (by omega) (imageL_length c _)]
        rw [red_eq this]; exact hnw.2.1
      rwa [e] at p1
    by_cases hw0 : w = []
    · rw [hw0]; exact Pre.nil hc hnz
    have hnw := hxw.nf hx
    obtain ⟨i, hi, hwi⟩ := first_of hc hnw hw0
    rcases fst_or hc hnz hi with hzi | hzi
    · exact same i w hi hxw hyw hzi hwi
    by_cases hzi2 : Fst c z i
    · exact same i w hi hxw hyw hzi2 hwi
    exfalso
    have hz0 : z ≠ [] := fun e => by
      have := hmax w hxw hyw
      rw [e] at this
      exact hw0 (List.eq_nil_of_length_eq_zero (by simpa using this))
    obtain ⟨t, ht, hzt⟩ := first_of hc hnz hz0
    have hit : i ≠ t := fun e => hzi2 (e ▸ hzt)
    have x1 := (front_down hc hx hxw hi hwi).1
    have x2 := (front_down hc hx hxz ht hzt).1
    have y1 := (front_down hc hy hyw hi hwi).1
    have y2 := (front_down hc hy hyz ht hzt).1
    obtain ⟨q, q1, q2, q3⟩ := h2 i t hi ht hit ⟨x, hx, x1, x2⟩
    have hzq := same t q ht (q3 x hx x1 x2) (q3 y hy y1 y2) hzt q2
    exact hzi2 (front_down hc hnz hzq hi q1).1
end Go.Proofs.YtojcdgdbffmlpaaGreat
namespace Go.Proofs.YtojcdgdbffmlpaaGreat
open Go Go.Aw Go.Cox
def fireL (c : List (List Int)) : List Nat → List Int → List Int
  | [], v => v
  | i :: l, v => fireL c l (reflL c i v)
theorem fireL_length (c : List (List Int)) : ∀ (l : List Nat) (v : List Int), (fireL c l v).length = v.length
  | [], _ => rfl
  | i :: l, v => by show (fireL c l (reflL c i v)).length = _; rw [fireL_length, reflL_length]
theorem vec_fire {c : List (List Int)} : ∀ (l : List Nat) {v : List Int}, v.length = c.length → vecL (fireL c l v) = run (matA c) l (vecL v)
  | [], _, _ => rfl
  | i :: l, v, hv => by
    show vecL (fireL c l (reflL c i v)) = run (matA c) l (refl (matA c) i (vecL v))
    rw [vec_fire l (by rw [reflL_length, hv]), vec_refl hv, Int.toNat_natCast]
theorem act_fire {c : List (List Int)} (hc : CartanP c) : ∀ (l : List Nat) {v : List Int}, (∀ i ∈ l, i < c.length) → v.length = c.length → actL c (l.map Int.ofNat) (fireL c l v) = v
  | [], _, _, _ => rfl
  | i :: l, v, hl, hv => by
    show reflL c (i : Int) (actL c (l.map Int.ofNat) (fireL c l (reflL c i v))) = v
    have hi := hl i (List.mem_cons_self ..)
    rw [act_fire hc l (fun j hj => hl j (List.mem_cons_of_mem _ hj)) (by rw [reflL_length, hv]), refl2 hc (i := (i : Int)) (by omega) hv]
theorem bond_le (A : Mat) (i j : Nat) : bond A i j ≤ 6 := by
  unfold bond; repeat' split
  all_goals omega
theorem far_poly {c : List (List Int)} (hc : CartanP c) {i t : Nat} (hi : i < c.length) (ht : t < c.length) (hit : i ≠ t) {L : Nat} {v : List Int} (h : Far c L v) (h1 : v.getD i 0 < 0) (h2 : v.getD t 0 < 0) :
    0 < bond (matA c) i t ∧ ∃ M, L = M + bond (matA c) i t ∧ Far c M (fireL c (alt i t (bond (matA c) i t)) v) := by
  have hA := matA_cartan hc
  obtain ⟨hl, s, hs, rfl⟩ := h
  have hb : bond (matA c) i t ≠ 0 := by
    intro hb
    have h3 : matA c i t < 0 ∧ matA c t i < 0 ∧ 4 ≤ matA c i t * matA c t i := by
      rcases bonds hA hi ht hit with ⟨h1, h2⟩ | ⟨h1, h2⟩ | ⟨h1, h2⟩ | ⟨h1, h2⟩ | ⟨h1, h2⟩ | ⟨h1, h2⟩ | h
      · rw [bond, h1, h2] at hb; simp at hb
      · rw [bond, h1, h2] at hb; simp at hb
      · rw [bond, h1, h2] at hb; simp at hb
      · rw [bond, h1, h2] at hb; simp at hb
      · rw [bond, h1, h2] at hb; simp at hb
      · rw [bond, h1, h2] at hb; simp at hb
      · exact h
    have hpos : 0 < vecL v i * matA c t i := Int.mul_pos_of_neg_of_neg h1 h3.2.1
    have hcc : -(matA c t i) * vecL v i = -(vecL v i * matA c t i) := by grind
    have h2' : vecL v t < 0 := h2
    obtain ⟨x, hx⟩ := endless hA (s.length + 1) hi ht hit h3.1 h3.2.1 h3.2.2 (vecL v) h1 (by rw [hcc]; omega)
    obtain ⟨r, _, hbr⟩ := conv hA _ rfl hs (dom_ones c) hx
    have := hbr.length
    simp [alt_length] at this
    omega
  obtain ⟨r, hr, hbr⟩ := conv hA _ rfl hs (dom_ones c) (polygon hA hi ht hit hb (vecL v) h1 h2)
  have hlen := hbr.length
  simp [alt_length] at hlen
  refine ⟨by omega, r.length, by omega, by rw [fireL_length, hl], r, ?_, rfl⟩
  rw [vec_fire _ hl]
  exact hr
theorem alt_letters {c : List (List Int)} {i t : Nat} (hi : i < c.length) (ht : t < c.length) (m : Nat) : letters c.length ((alt i t m).map Int.ofNat) := by
  intro a ha
  obtain ⟨j, hj, rfl⟩ := List.mem_map.1 ha
  have hj' : j < c.length := by rcases alt_mem hj with rfl | rfl <;> assumption
  show (0 : Int) ≤ (j : Int) ∧ (j : Int) < c.length
  omega
theorem nat_map (l : List Nat) : nat (l.map Int.ofNat) = l := by
  induction l with
  | nil => rfl
  | cons i l ih => show (Int.toNat (Int.ofNat i)) :: nat (l.map Int.ofNat) = _; rw [ih]; rfl
theorem fst_alt {c : List (List Int)} (hc : CartanP c) {i t : Nat} (hi : i < c.length) (ht : t < c.length) {m : Nat} (hm : m ≤ 31) (hm0 : 0 < m) (h : (redL c ((alt i t m).map Int.ofNat)).length = m) : Fst c (redL c ((alt i t m).map Int.ofNat)) i := by
  obtain ⟨k, rfl⟩ : ∃ k, m = k + 1 := ⟨m - 1, by omega⟩
  have hlet := alt_letters hi ht (k + 1)
  have hlen : ((alt i t (k + 1)).map Int.ofNat).length ≤ 31 := by simp [alt_length]; omega
  obtain ⟨a1, a2, a3, a4, a5⟩ := red_spec hc hlet hlen
  show (imageL c _).getD i 0 < 0
  rw [a4]
  have hnz := a5.nz hc i hi
  refine Classical.byContradiction fun hn => ?_
  have h5 := a5.up hc (i := (i : Int)) (by omega) (by simp only [Int.toNat_natCast]; omega)
  have e : reflL c (i : Int) (imageL c ((alt i t (k + 1)).map Int.ofNat)) = imageL c ((alt t i k).map Int.ofNat) :=
    refl2 hc (i := (i : Int)) (by omega) (imageL_length c _)
  rw [e] at h5
  obtain ⟨L, k1, _, k3⟩ := Far.image hc (alt_letters ht hi k)
  have := h5.uniq hc k3
  simp [alt_length] at k1
  omega
theorem two_all {c : List (List Int)} (hc : CartanP c) (i t : Nat) (hi : i < c.length) (ht : t < c.length) (hit : i ≠ t) (hx : ∃ x, Nf c x ∧ Fst c x i ∧ Fst c x t) : ∃ q, Two c i t q := by
  obtain ⟨x, hx, hxi, hxt⟩ := hx
  have hA := matA_cartan hc
  have hb6 := bond_le (matA c) i t
  obtain ⟨hb0, M, hM, hF⟩ := far_poly hc hi ht hit (hx.far hc) hxi hxt
  have hmem : ∀ j ∈ alt i t (bond (matA c) i t), j < c.length := fun j hj => by rcases alt_mem hj with rfl | rfl <;> assumption
  have hlet := alt_letters (c := c) hi ht (bond (matA c) i t)
  have hlen : ((alt i t (bond (matA c) i t)).map Int.ofNat).length ≤ 31 := by simp [alt_length]; omega
  obtain ⟨a1, a2, a3, a4, a5⟩ := red_spec hc hlet hlen
  have key : ∀ y, Nf c y → Fst c y i → Fst c y t → Pre c y (redL c ((alt i t (bond (matA c) i t)).map Int.ofNat)) ∧ (redL c ((alt i t (bond (matA c) i t)).map Int.ofNat)).length = bond (matA c) i t := by
    intro y hy hyi hyt
    obtain ⟨_, M, k1, k2⟩ := far_poly hc hi ht hit (hy.far hc) hyi hyt
    have hM : M ≤ 31 := by have := hy.2.2; omega
    obtain ⟨r1, r2, r3⟩ := nfL_far hc 31 M k2 hM
    have him : imageL c (redL c ((alt i t (bond (matA c) i t)).map Int.ofNat) ++ nfL c 31 (fireL c (alt i t (bond (matA c) i t)) (imageL c y))) = imageL c y := by
      rw [image_same_app hc a1 hlet a4, image_append, r3, act_fire hc _ hmem (imageL_length c y)]
    have hs := hy.short hc (letters_append.2 ⟨a1, r2⟩) him
    simp at hs
    simp [alt_length] at a2
    exact ⟨⟨a1, nf_idem hc hlet hlen, _, r2, him, by omega⟩, by omega⟩
  have hfull := (key x hx hxi hxt).2
  refine ⟨_, fst_alt hc hi ht (by omega) hb0 hfull, ?_, fun y h1 h2 h3 => (key y h1 h2 h3).1⟩
  have e : imageL c ((alt i t (bond (matA c) i t)).map Int.ofNat) = imageL c ((alt t i (bond (matA c) i t)).map Int.ofNat) := by
    apply vec_inj (by rw [imageL_length, imageL_length])
    rw [imageL, imageL, vec_act (ones_length _), vec_act (ones_length _), nat_map, nat_map]
    have := act_br hA (a := alt i t (bond (matA c) i t)) (b := alt t i (bond (matA c) i t)) (by simpa using Br.braid (A := matA c) (n := c.length) i t [] hi ht hit (by omega)) hmem
    exact this _
  rw [red_eq e]
  rw [red_eq e] at hfull
  exact fst_alt hc ht hi (by omega) hb0 hfull
theorem meet_top {c : List (List Int)} (hc : CartanP c) {x y z w : List Int} (hx : Nf c x) (hy : Nf c y) (h1 : Pre c x z) (h2 : Pre c y z) (h3 : Pre c x w) (h4 : Pre c y w) (h5 : ∀ u, Pre c x u → Pre c y u → u.length ≤ z.length) : Pre c z w :=
  meet_le hc (two_all hc) _ x y z w rfl hx hy h1 h2 h3 h4 h5
end Go.Proofs.YtojcdgdbffmlpaaGreat
namespace Go.Proofs.YtojcdgdbffmlpaaGreat
open Go Go.Aw Go.Cox
def desL (v : List Int) : List Int := ((List.range v.length).filter fun k => decide (v.getD k 0 < 0)).map Int.ofNat
theorem des_mem {v : List Int} {i : Int} : i ∈ desL v ↔ 0 ≤ i ∧ i.toNat < v.length ∧ v.getD i.toNat 0 < 0 := by
  unfold desL
  simp only [List.mem_map, List.mem_filter, List.mem_range, decide_eq_true_eq]
  constructor
  · rintro ⟨k, ⟨h1, h2⟩, rfl⟩
    exact ⟨Int.natCast_nonneg k, h1, h2⟩
  · rintro ⟨h1, h2, h3⟩
    exact ⟨i.toNat, ⟨h2, h3⟩, Int.toNat_of_nonneg h1⟩
theorem des_nodup (v : List Int) : (desL v).Nodup := by
  unfold desL
  refine List.pairwise_map.2 ?_
  refine List.Pairwise.imp (R := fun a b => a ≠ b) (fun h e => h (Int.ofNat.inj e)) ?_
  exact List.Pairwise.filter _ List.nodup_range
def nW (c : List (List Int)) : Nat → List Int → Nat
  | 0, _ => 1
  | f + 1, v => if desL v = [] then 1 else ((desL v).map fun i => nW c f (reflL c i v)).sum
def allW (c : List (List Int)) : Nat → List Int → List (List Int)
  | 0, _ => [[]]
  | f + 1, v => if desL v = [] then [[]] else (desL v).flatMap fun i => (allW c f (reflL c i v)).map (i :: ·)
theorem allW_len (c : List (List Int)) : ∀ (f : Nat) (v : List Int), (allW c f v).length = nW c f v
  | 0, _ => rfl
  | f + 1, v => by
    simp only [allW, nW]
    split
    · rfl
    · rw [List.length_flatMap]
      congr 1
      exact List.map_congr_left fun i _ => by rw [List.length_map, allW_len c f]
theorem des_far {c : List (List Int)} (hc : CartanP c) {L : Nat} {v : List Int} (h : Far c L v) : desL v = [] ↔ L = 0 := by
  constructor
  · intro hd
    rcases fst_of_far hc h with ⟨_, h2⟩ | ⟨h1, h2, h3, _⟩
    · exact h2
    · have : fstN v ∈ desL v := des_mem.2 ⟨h1, by have := h.1; omega, h3⟩
      rw [hd] at this; cases this
  · rintro rfl
    have e := h.zero
    cases hd : desL v with
    | nil => rfl
    | cons i l =>
      obtain ⟨h1, h2, h3⟩ := des_mem.1 (hd ▸ List.mem_cons_self .. : i ∈ desL v)
      rw [e] at h2 h3
      rw [ones_length] at h2
      have : (ones c.length).getD i.toNat 0 = 1 := by simp [ones, List.getD, h2]
      omega
theorem allW_mem {c : List (List Int)} (hc : CartanP c) : ∀ (f L : Nat) {v : List Int}, Far c L v → L ≤ f → ∀ w, w ∈ allW c f v ↔ letters c.length w ∧ imageL c w = v ∧ w.length = L := by
  have base : ∀ {v : List Int}, Far c 0 v → ∀ w, w ∈ [([] : List Int)] ↔ letters c.length w ∧ imageL c w = v ∧ w.length = 0 := by
    intro v h w
    constructor
    · intro hw
      have : w = [] := by simpa using hw
      subst this
      exact ⟨letters_nil _, h.zero.symm, rfl⟩
    · rintro ⟨_, _, h3⟩
      simp [List.eq_nil_of_length_eq_zero h3]
  intro f
  induction f with
  | zero =>
    intro L v h hL w
    have : L = 0 := by omega
    subst this
    exact base h w
  | succ f ih =>
    intro L v h hL w
    simp only [allW]
    by_cases h0 : L = 0
    · subst h0
      rw [if_pos ((des_far hc h).2 rfl)]
      exact base h w
    · rw [if_neg (fun e => h0 ((des_far hc h).1 e))]
      simp only [List.mem_flatMap, List.mem_map]
      constructor
      · rintro ⟨i, hi, w', hw', rfl⟩
        obtain ⟨h1, h2, h3⟩ := des_mem.1 hi
        have hl := h.1
        obtain ⟨M, k1, k2⟩ := h.down hc (i := i) ⟨h1, by omega⟩ h3
        obtain ⟨q1, q2, q3⟩ := (ih M k2 (by omega) w').1 hw'
        refine ⟨letters_cons.2 ⟨⟨h1, by omega⟩, q1⟩, ?_, by simp; omega⟩
        rw [image_cons, q2, refl2 hc ⟨h1, by omega⟩ hl]
      · rintro ⟨h1, h2, h3⟩
        cases w with
        | nil => simp at h3; omega
        | cons i w' =>
          obtain ⟨hi, hw'⟩ := letters_cons.1 h1
          have hl := h.1
          simp at h3
          have e : imageL c w' = reflL c i v := by
            rw [← h2, image_cons, refl2 hc hi (imageL_length c _)]
          obtain ⟨K, k1, _, k3⟩ := Far.image hc hw'
          have hneg : v.getD i.toNat 0 < 0 := by
            refine Classical.byContradiction fun hn => ?_
            have hnz := h.nz hc i.toNat (by omega)
            have h5 := h.up hc hi (by omega)
            rw [e] at k3
            have := h5.uniq hc k3
            omega
          obtain ⟨M, m1, m2⟩ := h.down hc hi hneg
          exact ⟨i, des_mem.2 ⟨hi.1, by omega, hneg⟩, w', (ih M m2 (by omega) w').2 ⟨hw', e, by omega⟩, rfl⟩
theorem allW_nodup {c : List (List Int)} : ∀ (f : Nat) (v : List Int), (allW c f v).Nodup
  | 0, _ => by simp [allW]
  | f + 1, v => by
    simp only [allW]
    split
    · simp
    · have key : ∀ (l : List Int), l.Nodup → (l.flatMap fun i => (allW c f (reflL c i v)).map (i :: ·)).Nodup := by
        intro l
        induction l with
        | nil => intro _; simp
        | cons i l ih =>
          intro hn
          obtain ⟨h1, h2⟩ := List.nodup_cons.1 hn
          rw [List.flatMap_cons, List.nodup_append]
          refine ⟨?_, ih h2, fun a ha b hb e => ?_⟩
          · refine List.pairwise_map.2 (List.Pairwise.imp (R := fun a b => a ≠ b) (fun h e => h (List.cons.inj e).2) (allW_nodup f _))
          · subst e
            obtain ⟨x, _, rfl⟩ := List.mem_map.1 ha
            obtain ⟨j, hj, hb⟩ := List.mem_flatMap.1 hb
            obtain ⟨y, _, e⟩ := List.mem_map.1 hb
            exact h1 ((List.cons.inj e).1 ▸ hj)
      exact key _ (des_nodup v)
def altI (i j : Int) (n : Nat) : List Int := (List.range n).map fun k => if k % 2 = 0 then i else j
theorem altI_len (i j : Int) (n : Nat) : (altI i j n).length = n := by simp [altI]
theorem altI_succ (i j : Int) (n : Nat) : altI i j (n + 1) = altI i j n ++ [if n % 2 = 0 then i else j] := by simp [altI, List.range_succ]
theorem altI_alt (i j n : Nat) : altI (i : Int) (j : Int) n = (alt i j n).map Int.ofNat := by
  induction n with
  | zero => rfl
  | succ n ih =>
    rw [altI_succ, alt_snoc, List.map_append, ← ih]
    congr 1
    simp only [List.map_cons, List.map_nil]
    split <;> rfl
def bmM (c : List (List Int)) (w : List Int) (k : Nat) : Nat := bond (matA c) (w.getD k 0).toNat (w.getD (k + 1) 0).toNat
def bmP (c : List (List Int)) (w : List Int) (k : Nat) : Prop := k + 1 < w.length ∧ w.getD k 0 ≠ w.getD (k + 1) 0 ∧ 2 ≤ bmM c w k ∧ bmM c w k ≤ w.length - k ∧ (w.drop k).take (bmM c w k) = altI (w.getD k 0) (w.getD (k + 1) 0) (bmM c w k)
instance (c : List (List Int)) (w : List Int) (k : Nat) : Decidable (bmP c w k) := by unfold bmP; infer_instance
def bmX (c : List (List Int)) (w : List Int) (k : Nat) : List Int := w.take k ++ altI (w.getD (k + 1) 0) (w.getD k 0) (bmM c w k) ++ w.drop (k + bmM c w k)
def byL (c : List (List Int)) (w : List Int) (k : Nat) : List Int := if bmP c w k then bmX c w k else w
theorem bm_split {c : List (List Int)} {w : List Int} {k : Nat} (h : bmP c w k) : w = w.take k ++ altI (w.getD k 0) (w.getD (k + 1) 0) (bmM c w k) ++ w.drop (k + bmM c w k) := by
  rw [← h.2.2.2.2, List.append_assoc, ← List.drop_drop, List.take_append_drop, List.take_append_drop]
theorem bmX_len {c : List (List Int)} {w : List Int} {k : Nat} (h : bmP c w k) : (bmX c w k).length = w.length := by
  have e := congrArg List.length (bm_split h)
  unfold bmX
  simp only [List.length_append, altI_len] at e ⊢
  omega
theorem bmX_ok {c : List (List Int)} (hc : CartanP c) {w : List Int} (hw : letters c.length w) {k : Nat} (h : bmP c w k) : letters c.length (bmX c w k) ∧ imageL c (bmX c w k) = imageL c w := by
  have hA := matA_cartan hc
  have hk1 : k + 1 < w.length := h.1
  have hi := hw _ (getD_mem (w := w) (i := k) (by omega))
  have hj := hw _ (getD_mem (w := w) (i := k + 1) hk1)
  have e1 : ((w.getD k 0).toNat : Int) = w.getD k 0 := by omega
  have e2 : ((w.getD (k + 1) 0).toNat : Int) = w.getD (k + 1) 0 := by omega
  have hij : (w.getD k 0).toNat ≠ (w.getD (k + 1) 0).toNat := fun e => h.2.1 (by omega)
  have a1 : altI (w.getD k 0) (w.getD (k + 1) 0) (bmM c w k) = (alt (w.getD k 0).toNat (w.getD (k + 1) 0).toNat (bmM c w k)).map Int.ofNat := by rw [← altI_alt, e1, e2]
  have a2 : altI (w.getD (k + 1) 0) (w.getD k 0) (bmM c w k) = (alt (w.getD (k + 1) 0).toNat (w.getD k 0).toNat (bmM c w k)).map Int.ofNat := by rw [← altI_alt, e1, e2]
  have l1 := alt_letters (c := c) (i := (w.getD (k + 1) 0).toNat) (t := (w.getD k 0).toNat) (by omega) (by omega) (bmM c w k)
  have l0 := alt_letters (c := c) (i := (w.getD k 0).toNat) (t := (w.getD (k + 1) 0).toNat) (by omega) (by omega) (bmM c w k)
  have lt : letters c.length (w.take k) := fun a ha => hw a (List.mem_of_mem_take ha)
  have ld : letters c.length (w.drop (k + bmM c w k)) := fun a ha => hw a (List.mem_of_mem_drop ha)
  refine ⟨?_, ?_⟩
  · unfold bmX
    rw [a2]
    exact letters_append.2 ⟨letters_append.2 ⟨lt, l1⟩, ld⟩
  · have es := bm_split h
    rw [a1] at es
    have hb : imageL c ((alt (w.getD (k + 1) 0).toNat (w.getD k 0).toNat (bmM c w k)).map Int.ofNat) = imageL c ((alt (w.getD k 0).toNat (w.getD (k + 1) 0).toNat (bmM c w k)).map Int.ofNat) := by
      apply vec_inj (by rw [imageL_length, imageL_length])
      rw [imageL, imageL, vec_act (ones_length _), vec_act (ones_length _), nat_map, nat_map]
      have hmem : ∀ a ∈ alt (w.getD k 0).toNat (w.getD (k + 1) 0).toNat (bond (matA c) (w.getD k 0).toNat (w.getD (k + 1) 0).toNat), a < c.length := fun a ha => by rcases alt_mem ha with rfl | rfl <;> omega
      have := act_br hA (a := alt (w.getD k 0).toNat (w.getD (k + 1) 0).toNat (bond (matA c) (w.getD k 0).toNat (w.getD (k + 1) 0).toNat)) (b := alt (w.getD (k + 1) 0).toNat (w.getD k 0).toNat (bond (matA c) (w.getD k 0).toNat (w.getD (k + 1) 0).toNat)) (by simpa using Br.braid (A := matA c) (n := c.length) (w.getD k 0).toNat (w.getD (k + 1) 0).toNat [] (by omega) (by omega) hij (by have := h.2.2.1; unfold bmM at this; omega)) hmem
      exact (this _).symm
    unfold bmX
    rw [a2]
    conv => rhs; rw [es]
    rw [List.append_assoc, List.append_assoc, image_append, image_append c (w.take k)]
    congr 1
    exact image_same_app hc l1 l0 hb _
theorem br_closed {c : List (List Int)} {S : List Int → Prop} (hS : ∀ w, S w → letters c.length w → ∀ k, bmP c w k → S (bmX c w k)) {a b : List Nat} (h : Br (matA c) c.length a b) :
    ∀ (t : List Int), letters c.length t → (∀ i ∈ a, i < c.length) → S (t ++ a.map Int.ofNat) → S (t ++ b.map Int.ofNat) := by
  induction h with
  | refl w => exact fun _ _ _ h => h
  | trans h1 h2 ih1 ih2 => exact fun t ht ha h => ih2 t ht (h1.mem ha) (ih1 t ht ha h)
  | @cons i a b h ih =>
    intro t ht ha h2
    have hi := ha i (List.mem_cons_self ..)
    have e : ∀ l : List Nat, t ++ (i :: l).map Int.ofNat = (t ++ [(i : Int)]) ++ l.map Int.ofNat := fun l => by simp
    rw [e] at h2 ⊢
    exact ih _ (letters_append.2 ⟨ht, letter1 hi⟩) (fun j hj => ha j (List.mem_cons_of_mem _ hj)) h2
  | braid i j r hi hj hij hb =>
    intro t ht ha h2
    have hb2 : 2 ≤ bond (matA c) i j := by unfold bond at hb ⊢; repeat' split
                                           all_goals first | omega | simp_all
    generalize hm : bond (matA c) i j = m at *
    obtain ⟨m, rfl⟩ : ∃ q, m = q + 2 := ⟨m - 2, by omega⟩
    have hw : letters c.length (t ++ (alt i j (m + 2) ++ r).map Int.ofNat) := by
      refine letters_append.2 ⟨ht, fun a h => ?_⟩
      obtain ⟨q, hq, rfl⟩ := List.mem_map.1 h
      have := ha q hq
      show (0 : Int) ≤ (q : Int) ∧ (q : Int) < c.length
      omega
    have g0 : (t ++ (alt i j (m + 2) ++ r).map Int.ofNat).getD t.length 0 = (i : Int) := by
      simp [List.getD_eq_getElem?_getD, List.getElem?_append, alt]
    have g1 : (t ++ (alt i j (m + 2) ++ r).map Int.ofNat).getD (t.length + 1) 0 = (j : Int) := by
      simp [List.getD_eq_getElem?_getD, List.getElem?_append, alt]
    have hM : bmM c (t ++ (alt i j (m + 2) ++ r).map Int.ofNat) t.length = m + 2 := by
      unfold bmM; rw [g0, g1]; exact hm
    have hP : bmP c (t ++ (alt i j (m + 2) ++ r).map Int.ofNat) t.length := by
      unfold bmP
      rw [hM, g0, g1]
      refine ⟨by simp [alt_length]; omega, by omega, by omega, by simp [alt_length], ?_⟩
      rw [altI_alt]
      simp [List.take_append, alt_length]
    have := hS _ h2 hw _ hP
    unfold bmX at this
    rw [hM, g0, g1, altI_alt] at this
    have hd : List.drop (t.length + (m + 2)) t = [] := List.drop_eq_nil_of_le (by omega)
    simpa [alt_length, List.drop_append, Nat.add_sub_cancel_left, hd] using this
theorem red_closed {c : List (List Int)} (hc : CartanP c) {S : List Int → Prop} (hS : ∀ w, S w → letters c.length w → ∀ k, bmP c w k → S (bmX c w k)) {x w : List Int} (hx : Red c x) (hw : letters c.length w) (he : imageL c w = imageL c x) (hl : w.length = x.length) (h : S x) : S w := by
  have hA := matA_cartan hc
  have play : ∀ {y : List Int}, Red c y → Play (matA c) c.length (vecL (imageL c y)) (nat y) (vecL (ones c.length)) := by
    intro y
    induction y with
    | nil => intro _; exact .nil _
    | cons i y ih =>
      intro hy
      obtain ⟨hi, hl⟩ := letters_cons.1 hy.1
      obtain ⟨L, k1, _, k3⟩ := Far.image hc hl
      have hneg : (imageL c (i :: y)).getD i.toNat 0 < 0 := by
        have hnz := hy.2.nz hc i.toNat (by omega)
        refine Classical.byContradiction fun hn => ?_
        have h5 := hy.2.up hc hi (by omega)
        rw [image_cons, refl2 hc hi (imageL_length c _)] at h5
        have := h5.uniq hc k3
        simp at this
        omega
      obtain ⟨M, m1, m2⟩ := hy.2.down hc hi hneg
      rw [image_cons, refl2 hc hi (imageL_length c _)] at m2
      have hy' : Red c y := by
        simp at m1
        subst m1
        exact ⟨hl, m2⟩
      refine .cons (show i.toNat < c.length by omega) hneg ?_
      have e : refl (matA c) i.toNat (vecL (imageL c (i :: y))) = vecL (imageL c y) := by
        rw [← vec_refl (imageL_length c _), image_cons, refl2 hc hi (imageL_length c _)]
      rw [e]
      exact ih hy'
  have hwR : Red c w := ⟨hw, by rw [he, hl]; exact hx.2⟩
  have p1 := play hx
  have p2 := play hwR
  rw [he] at p2
  obtain ⟨t, ht, hbr⟩ := conv hA _ rfl p1 (dom_ones c) p2
  have ht0 : t = [] := by
    have := hbr.length
    simp [nat] at this
    exact List.eq_nil_of_length_eq_zero (by omega)
  subst ht0
  rw [List.append_nil] at hbr
  have back : ∀ {y : List Int}, letters c.length y → (nat y).map Int.ofNat = y := by
    intro y hy
    induction y with
    | nil => rfl
    | cons i y ih =>
      obtain ⟨hi, hl⟩ := letters_cons.1 hy
      show Int.ofNat i.toNat :: (nat y).map Int.ofNat = _
      rw [ih hl]
      congr 1
      exact Int.toNat_of_nonneg hi.1
  have := br_closed hS hbr [] (letters_nil _) (letters_nat hx.1) (by rw [List.nil_append, back hx.1]; exact h)
  rwa [List.nil_append, back hw] at this
end Go.Proofs.YtojcdgdbffmlpaaGreat
namespace Go.Proofs.YtojcdgdbffmlpaaGreat
open Go Go.Aw Go.Cox
end Go.Proofs.YtojcdgdbffmlpaaGreat
namespace Go.Proofs.YtojcdgdbffmlpaaGreat
open Go Go.Aw Go.Cox
end Go.Proofs.YtojcdgdbffmlpaaGreat
namespace Go.Proofs.YtojcdgdbffmlpaaGreat
open Go Go.Aw Go.Cox
theorem Nf.tail {c : List (List Int)} (hc : CartanP c) {i : Int} {y1 : List Int} (h : Nf c (i :: y1)) : Nf c y1 := by
  have hb := h.2.2
  simp at hb
  obtain ⟨hi, hl⟩ := letters_cons.1 h.1
  refine ⟨hl, ?_, by omega⟩
  have hR := Red.tail hc (a := [i]) (by omega) (h.red hc)
  have h2 : nfL c 31 (imageL c (i :: y1)) = i :: y1 := h.2.1
  have hf : fstN (imageL c (i :: y1)) = i ∧ nfL c 30 (reflL c (fstN (imageL c (i :: y1))) (imageL c (i :: y1))) = y1 := by
    have h3 : (if fstN (imageL c (i :: y1)) < 0 then [] else fstN (imageL c (i :: y1)) :: nfL c 30 (reflL c (fstN (imageL c (i :: y1))) (imageL c (i :: y1)))) = i :: y1 := h2
    split at h3
    · cases h3
    · exact ⟨(List.cons.inj h3).1, (List.cons.inj h3).2⟩
  obtain ⟨e1, e2⟩ := hf
  rw [e1, image_cons, refl2 hc hi (imageL_length c y1)] at e2
  show nfL c 31 (imageL c y1) = y1
  rw [nfL_more hc 31 30 _ hR.2 (by omega) (by omega)]
  exact e2
end Go.Proofs.YtojcdgdbffmlpaaGreat
namespace Go.Proofs.YtojcdgdbffmlpaaGreat
open Go Go.Aw Go.Cox
theorem Low.short {c : List (List Int)} (hc : CartanP c) {y z : List Int} (hy : Nf c y) (h : Low c y z) (hne : z ≠ y) : z.length < y.length := by
  obtain ⟨k, hk, hR, hS⟩ := sub_chain hc (hy.red hc) hy.2.2 h.2 (fun e => hne (nf_same h.1 hy e))
  have := Low.len hc hR.1 ⟨h.1, hS⟩
  have := delA_len hk
  omega
end Go.Proofs.YtojcdgdbffmlpaaGreat
namespace Go.Proofs.YtojcdgdbffmlpaaGreat
open Go Go.Aw Go.Cox
end Go.Proofs.YtojcdgdbffmlpaaGreat
namespace Go.Proofs.YtojcdgdbffmlpaaGreat
open Go Go.Aw Go.Cox
theorem br_iff {c : List (List Int)} {u v : List Int} (hu : wordB c u = true) (hv : wordB c v = true) : brB c u v = true ↔ SubI c (redL c v) (imageL c u) := by
  obtain ⟨hc, u1, u2⟩ := wordB_iff.1 hu
  obtain ⟨_, v1, v2⟩ := wordB_iff.1 hv
  obtain ⟨a1, a2, a3, a4, a5⟩ := red_spec hc u2 (by omega)
  obtain ⟨b1, _⟩ := red_spec hc v2 (by omega)
  unfold brB
  rw [hu, hv]
  simp only [Bool.true_and]
  exact bel_sub hc _ b1 a5
end Go.Proofs.YtojcdgdbffmlpaaGreat
namespace Go.Proofs.YtojcdgdbffmlpaaGreat
def inL : Nat → List (List Nat) → List Nat
  | _, [] => []
  | 0, r :: _ => r
  | n + 1, _ :: l => inL n l
def inN : Nat → List Nat → Nat
  | _, [] => 0
  | 0, x :: _ => x
  | n + 1, _ :: l => inN n l
def inP : Nat → List (Nat × Nat) → Nat × Nat
  | _, [] => (0, 0)
  | 0, x :: _ => x
  | n + 1, _ :: l => inP n l
def rpV (a : Nat × Nat) (i : Nat) : Nat → List (Nat × Nat) → List Nat → List (Nat × Nat)
  | k, x :: v, b :: col => (bif Nat.beq k i then (x.2, x.1) else (Nat.add x.1 (Nat.mul a.1 b), Nat.add x.2 (Nat.mul a.2 b))) :: rpV a i (k + 1) v col
  | _, _, _ => []
def rfV (cols : List (List Nat)) (i : Nat) (v : List (Nat × Nat)) : List (Nat × Nat) := rpV (inP i v) i 0 v (inL i cols)
def fnV : List (Nat × Nat) → Nat → Option Nat
  | [], _ => none
  | x :: l, k => bif Nat.ble x.2 x.1 then fnV l (k + 1) else some k
def onV : List (Nat × Nat) → Bool
  | [] => true
  | x :: l => Nat.beq x.1 (Nat.add x.2 1) && onV l
def plV (cols : List (List Nat)) : Nat → List (Nat × Nat) → Bool
  | 0, v => onV v
  | f + 1, v => match fnV v 0 with
    | none => onV v
    | some i => plV cols f (rfV cols i v)
def cxV (cols : List (List Nat)) : Nat → List (Nat × Nat) → List (Nat × Nat)
  | 0, v => v
  | n + 1, v => cxV cols n (rfV cols n v)
def orV (cols : List (List Nat)) (n : Nat) : Nat → List (Nat × Nat) → Bool
  | 0, _ => false
  | f + 1, v => onV (cxV cols n v) || orV cols n f (cxV cols n v)
def eqR : List Nat → List Nat → Bool
  | [], [] => true
  | x :: a, y :: b => Nat.beq x y && eqR a b
  | _, _ => false
def hasR (r : List Nat) : List (List Nat) → Bool
  | [] => false
  | s :: l => eqR r s || hasR r l
def dtR : List Nat → List Nat → Nat
  | x :: a, y :: b => Nat.add (Nat.mul x y) (dtR a b)
  | _, _ => 0
def stR : Nat → Nat → List Nat → List Nat
  | _, _, [] => []
  | 0, y, _ :: l => y :: l
  | n + 1, y, x :: l => x :: stR n y l
def unR (n i : Nat) : List Nat := stR i 1 (List.replicate n 0)
def upR (r : List Nat) (q : List (List Nat)) : Nat → List (List Nat) → List (List Nat)
  | _, [] => []
  | i, row :: rows => bif Nat.ble (dtR row r) (Nat.mul 2 (inN i r)) then upR r q (i + 1) rows else
      bif hasR (stR i (Nat.sub (dtR row r) (inN i r)) r) q then upR r q (i + 1) rows else stR i (Nat.sub (dtR row r) (inN i r)) r :: upR r q (i + 1) rows
def grR (rows : List (List Nat)) : Nat → List (List Nat) → List (List Nat) → List (List Nat)
  | 0, _, d => d
  | _ + 1, [], d => d
  | f + 1, r :: q, d => grR rows f (q ++ upR r q 0 rows) (r :: d)
def okR (P : List (List Nat)) (n : Nat) (r : List Nat) : Nat → List (List Nat) → Bool
  | _, [] => true
  | i, row :: rows => (eqR r (unR n i) || (Nat.ble (inN i r) (dtR row r) && hasR (stR i (Nat.sub (dtR row r) (inN i r)) r) P)) && okR P n r (i + 1) rows
def smR : List Nat → Bool
  | [] => true
  | x :: l => Nat.ble x 6 && smR l
def unsR (n : Nat) : Nat → List (List Nat)
  | 0 => []
  | k + 1 => unR n k :: unsR n k
def clR (rows : List (List Nat)) (n : Nat) (P : List (List Nat)) : Bool :=
  (unsR n n).all (fun r => hasR r P) && P.all fun r => Nat.beq r.length n && smR r && okR P n r 0 rows
def godC (cols rows : List (List Nat)) (n : Nat) : Bool :=
  plV cols 24 (List.replicate n (0, 1)) && orV cols n 12 (List.replicate n (1, 0)) && clR rows n (grR rows 30 (unsR n n) [])
def prN : List (Nat × Nat) := [(0, 0), (1, 1), (1, 2), (2, 1), (1, 3), (3, 1)]
def d3 (p q r : Nat × Nat) : Bool := Nat.ble (Nat.add (Nat.add (Nat.mul 2 (Nat.add (Nat.add (Nat.mul p.1 p.2) (Nat.mul q.1 q.2)) (Nat.mul r.1 r.2))) (Nat.add (Nat.mul (Nat.mul p.1 r.1) q.2) (Nat.mul (Nat.mul q.1 r.2) p.2))) 1) 8
def col4 (p q r s t u : Nat × Nat) : List (List Nat) := [[0, p.2, q.2, s.2], [p.1, 0, r.2, t.2], [q.1, r.1, 0, u.2], [s.1, t.1, u.1, 0]]
def row4 (p q r s t u : Nat × Nat) : List (List Nat) := [[0, p.1, q.1, s.1], [p.2, 0, r.1, t.1], [q.2, r.2, 0, u.1], [s.2, t.2, u.2, 0]]
def col3 (p q r : Nat × Nat) : List (List Nat) := [[0, p.2, q.2], [p.1, 0, r.2], [q.1, r.1, 0]]
def row3 (p q r : Nat × Nat) : List (List Nat) := [[0, p.1, q.1], [p.2, 0, r.1], [q.2, r.2, 0]]
def d4 (p q r s t u : Nat × Nat) : Bool :=
  Nat.ble (4 * (p.1 * p.2 + q.1 * q.2 + r.1 * r.2 + s.1 * s.2 + t.1 * t.2 + u.1 * u.2) + 2 * (p.1 * r.1 * q.2 + q.1 * r.2 * p.2 + p.1 * t.1 * s.2 + s.1 * t.2 * p.2 + q.1 * u.1 * s.2 + s.1 * u.2 * q.2 + r.1 * u.1 * t.2 + t.1 * u.2 * r.2) +
    (p.1 * r.1 * u.1 * s.2 + s.1 * u.2 * r.2 * p.2 + p.1 * t.1 * u.2 * q.2 + q.1 * u.1 * t.2 * p.2 + q.1 * r.2 * t.1 * s.2 + s.1 * t.2 * r.1 * q.2) + 1) (16 + (p.1 * p.2 * (u.1 * u.2) + q.1 * q.2 * (t.1 * t.2) + s.1 * s.2 * (r.1 * r.2)))
def ck4 (p : Nat × Nat) : Bool := prN.all fun q => prN.all fun r => !d3 p q r || prN.all fun s => prN.all fun t => !d3 p s t || prN.all fun u => !d3 q s u || !d3 r t u || !d4 p q r s t u || godC (col4 p q r s t u) (row4 p q r s t u) 4
def ck3 : Bool := prN.all fun p => prN.all fun q => prN.all fun r => !d3 p q r || godC (col3 p q r) (row3 p q r) 3
def ck2 : Bool := prN.all fun p => godC [[0, p.2], [p.1, 0]] [[0, p.1], [p.2, 0]] 2
theorem ck1_true : godC [[0]] [[0]] 1 = true := by decide +kernel
theorem ck2_true : ck2 = true := by decide +kernel
theorem ck3_true : ck3 = true := by decide +kernel
theorem ck4_0 : ck4 (0, 0) = true := by decide +kernel
theorem ck4_1 : ck4 (1, 1) = true := by decide +kernel
theorem ck4_2 : ck4 (1, 2) = true := by decide +kernel
theorem ck4_3 : ck4 (2, 1) = true := by decide +kernel
theorem ck4_4 : ck4 (1, 3) = true := by decide +kernel
theorem ck4_5 : ck4 (3, 1) = true := by decide +kernel
end Go.Proofs.YtojcdgdbffmlpaaGreat

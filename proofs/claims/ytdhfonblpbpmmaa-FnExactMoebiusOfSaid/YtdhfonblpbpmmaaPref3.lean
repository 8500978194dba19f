/- The elements below an element in the weak order: what the reference does. -/
import Derived.Test.YtdhfonblpbpmmaaPref2
import Derived.Test.YtdhfonblpbpmmaaIn
set_option linter.unusedVariables false
set_option linter.unusedSimpArgs false
namespace Go.Proofs.Ytdhfonblpbpmmaa
open Go Go.Aw Go.Cox

theorem rwg (ys : List (Nat × List Int)) (k : Nat) : (ys.getD k (0, [])).2 = (rw2 ys).getD k [] := by
  unfold rw2
  simp only [List.getD, List.getElem?_map]
  cases ys[k]? <;> rfl
theorem rwl (ys : List (Nat × List Int)) : (rw2 ys).length = ys.length := by simp [rw2]
theorem putS_len (w : List Int) : ∀ (b : Bool) (l : List (List Int)), (putS w b l).length ≤ l.length + 1
  | b, [] => by cases b <;> simp [putS]
  | b, x :: l => by
    simp only [putS]
    split
    · rw [putS_true]; simp
    · have := putS_len w (b || cmpW w x == 0) l; simp; omega
theorem putS_keep (w : List Int) : ∀ (l : List (List Int)) (k : Nat), (∀ j, j ≤ k → j < l.length ∧ 0 < cmpW w (l.getD j [])) → ∀ j, j ≤ k → j < (putS w false l).length ∧ (putS w false l).getD j [] = l.getD j []
  | [], k, h, j, hj => by have := (h 0 (Nat.zero_le _)).1; simp at this
  | x :: l, k, h, j, hj => by
    have h0 : 0 < cmpW w x := (h 0 (Nat.zero_le _)).2
    simp only [putS]
    rw [if_neg (by omega), show (false || cmpW w x == 0) = false by simp; omega]
    cases j with
    | zero => exact ⟨by simp, rfl⟩
    | succ j =>
      cases k with
      | zero => omega
      | succ k =>
        have ih := putS_keep w l k (fun j hj => by
          have := h (j + 1) (by omega)
          exact ⟨by simpa using this.1, by simpa using this.2⟩) j (by omega)
        exact ⟨by simp; omega, by simpa using ih.2⟩
theorem cmp_long {a b : List Int} (h : a.length < b.length) : 0 < cmpW b a := by
  unfold cmpW
  rw [if_neg (by omega), if_pos (by omega)]; omega
theorem putS_keepk {w : List Int} {l : List (List Int)} (hs : StrictW l) {k : Nat} (hk : k < l.length) (hlt : (l.getD k []).length < w.length) : ∀ j, j ≤ k → j < (putS w false l).length ∧ (putS w false l).getD j [] = l.getD j [] :=
  putS_keep w l k fun j hj => by
    refine ⟨by omega, ?_⟩
    by_cases e : j = k
    · rw [e]; exact cmp_long hlt
    · have h1 := List.pairwise_iff_getElem.1 hs j k (by omega) hk (by omega)
      have h2 : cmpW (l.getD k []) w < 0 := by have := cmpW_neg w (l.getD k []); have := cmp_long hlt; omega
      rw [getD_eq hk] at h2
      have h3 := cmpW_lt_trans h1 h2
      rw [getD_eq (by omega : j < l.length)]
      have := cmpW_neg w l[j]
      omega
theorem wcv_nf {c : List (List Int)} {y z : List Int} (hW : wordB c y = true) (h : z ∈ wcv c y) : Nf c z ∧ z.length ≤ 15 ∧ (redL c y).length < z.length := by
  obtain ⟨hc, h2, h3⟩ := wordB_iff.1 hW
  unfold wcv at h
  rw [hW, if_pos rfl, (srt_spec _).2] at h
  unfold wkT at h
  obtain ⟨i, hi, hf⟩ := List.mem_filterMap.1 h
  obtain ⟨rfl, q1, q2⟩ := wkF_some hf
  have hi : i < c.length := by simpa using hi
  exact ⟨nf_red hc (letters_append.2 ⟨h3, letter1 hi⟩) (by simp; omega) (by have : (covL c y i).length ≤ 15 := q2; unfold covL at this; omega), q2, q1⟩
theorem wcv_has {c : List (List Int)} {y : List Int} (hW : wordB c y = true) {a : Nat} (ha : a < c.length) (h1 : (redL c y).length < (redL c (y ++ [(a : Int)])).length) (h2 : (redL c (y ++ [(a : Int)])).length ≤ 15) : redL c (y ++ [(a : Int)]) ∈ wcv c y := by
  unfold wcv
  rw [hW, if_pos rfl, (srt_spec _).2]
  unfold wkT
  exact List.mem_filterMap.2 ⟨a, by simpa using ha, by unfold wkF covL; rw [if_pos ⟨h1, h2⟩]⟩

/-- The rows ahead of row k are worked off. -/
def DoneU (c : List (List Int)) (x : List Int) (L : List (List Int)) (k : Nat) : Prop := ∀ j, j < L.length → j < k → ∀ a, a < c.length → (L.getD j []).length < (redL c (L.getD j [] ++ [(a : Int)])).length → Pre c x (redL c (L.getD j [] ++ [(a : Int)])) → redL c (L.getD j [] ++ [(a : Int)]) ∈ L

set_option maxHeartbeats 4000000 in
theorem c_spec_PrefixesOfR (c : List (List Int)) (w : List Int) (hcl : c.length ≤ 1048576) :
    FunA B 10 [.sl false (.row false) c, .sl false .int w] (fun rs o => ∃ ys g nn rest, (rw2 ys = preX c w ∧ nn = true ∧ rest = [.bool (preB c w)]) ∧ (lb1 ys).Nodup ∧ rest.all flatAV = true ∧ rs = .own 0 g :: rest ∧ o = [.arr .lrow ys g nn]) := by
  refine FunA.walk B_ok (fn := Try.f10) (fun vs w => Try.call10 vs w) Try.func10 rfl (by rw [Try.ntmps10]; simp) (fun C hC hP hT hΓ hbt hfn hpin hfin => ?_); have hX := BX; rw [← hΓ, ← hbt.1, ← hbt.2] at hX; rw [Try.ntmps10]; simp only [AW7, simprocAttr, hX]
  refine Run.nq ?_; refine Run.regionW hC (fun K hK => ?_); simp only [AW7, simprocAttr, hX]; (repeat (with_reducible refine And.intro ?_ ?_); exact vc0); refine hK _ ?_; clear hK K; refine Run.nq ?_
  refine Run.nq ?_; refine Run.regionW hC (fun K hK => ?_); simp only [AW7, simprocAttr, hX]; (repeat (with_reducible refine And.intro ?_ ?_); exact vc0)
  refine FunA.callW hP hT (c_spec_NormalForm c w hcl) (by simp only [AW7, simprocAttr]) ?_
  rintro rs o ⟨rfl, rfl⟩
  (try simp only [AW7, simprocAttr, hX]); (repeat (with_reducible refine And.intro ?_ ?_); exact vc0)
  (repeat (with_reducible refine And.intro ?_ ?_); exact vc0); refine hK _ ?_; clear hK K; refine Run.nq ?_
  refine Run.nq ?_; refine Run.regionW hC (fun K hK => ?_); simp only [AW7, simprocAttr, hX]; (repeat (with_reducible refine And.intro ?_ ?_); exact vc0); refine hK _ ?_; clear hK K; refine Run.nq ?_
  refine Run.nq ?_; refine Run.condW (by simp only [AW7, simprocAttr, hX]; rfl) (by simp only [AW7, simprocAttr, hX]) ?_ ?_
  · intro h
    have h : wordB c w = false := by simpa using h
    refine Run.nq ?_; refine Run.regionW hC (fun K hK => ?_); simp only [AW7, simprocAttr, hX]; (repeat (with_reducible refine And.intro ?_ ?_); exact vc0); refine hK _ ?_; clear hK K; refine Run.nq ?_
    refine Run.reK hpin [4, 5] [1] (by decide) (by simp) ?_; simp only [AR, AW7, simprocAttr]
    refine Run.retW [4, 5] (by decide) (by rw [hfn]; rfl) (by simp only [AW7, simprocAttr, hX]; rfl) (by simp only [AW7, simprocAttr, hX]) (hfin _ _ rfl rfl ?_)
    exact ⟨[], 0, true, [.bool false], ⟨by unfold preX; rw [h]; rfl, rfl, by unfold preB; rw [h]; rfl⟩, by simp [lb1], rfl, rfl, rfl⟩
  intro h
  have hwb : wordB c w = true := by simpa using h
  obtain ⟨hc, hw2, hw3⟩ := wordB_iff.1 hwb
  have hn := hc.2.1
  obtain ⟨hx, hx15⟩ := word_nf hwb
  rw [nfW_on hwb]
  have hpX : preX c w = fewL (Pre c (redL c w)) := by unfold preX; rw [hwb]; rfl
  have hpB : preB c w = fewB (Pre c (redL c w)) := by unfold preB; rw [hwb]; rfl
  generalize hgx : redL c w = x at *
  have hWx : wordB c x = true := wordB_iff.2 ⟨hc, hx15, hx.1⟩
  refine Run.nq ?_; refine Run.regionW hC (fun K hK => ?_); simp only [AW7, simprocAttr, hX]; (repeat (with_reducible refine And.intro ?_ ?_); exact vc0)
  intro q hq
  (repeat (with_reducible refine And.intro ?_ ?_); exact vc0)
  (repeat (with_reducible refine And.intro ?_ ?_); exact vc0); refine hK _ ?_; clear hK K; refine Run.nq ?_
  refine Run.nq ?_; refine Run.regionW hC (fun K hK => ?_); simp only [AW7, simprocAttr, hX]; (repeat (with_reducible refine And.intro ?_ ?_); exact vc0); refine hK _ ?_; clear hK K; refine Run.nq ?_
  refine Run.reK hpin [0, 6, 8, 9] [2, 0] (by decide) (by simp) ?_; simp only [AR, AW7, simprocAttr]
  refine Run.loopI (X := List (Nat × List Int) × Nat) (fun s => ⟨68, [(0, true, .v (.sl false (.row false) (c))), (6, true, .v (.own 1 0)), (8, true, .v (.own 0 0)), (9, true, .v (.int .i64 (s.2)))], [.arr .lrow (s.1) 0 true, .arr .int (x) 0 true]⟩) (fun s => (s.2 ≤ s.1.length ∧ s.1.length ≤ 200) ∧ (lb1 s.1).Nodup ∧ StrictW (rw2 s.1) ∧ (∀ z ∈ rw2 s.1, Pre c x z) ∧ [] ∈ rw2 s.1 ∧ DoneU c x (rw2 s.1) s.2) (fun s => 201 - s.2) (([(q, [])], 0)) (⟨⟨by simp, by simp⟩, by simp [lb1], by unfold StrictW; simp [rw2], fun z hz => by simp [rw2] at hz; rw [hz]; exact Pre.nil hc hx, by simp [rw2], fun j _ hj => by omega⟩) ?_ ?_
  · exact Le.sub (by first | rfl | simp) (by simp only [AW7, simprocAttr, hX]; try simp <;> try (first | rfl | exact ⟨rfl, rfl⟩ | exact ⟨rfl, rfl, rfl⟩))
  rintro ⟨ys, k⟩ ⟨⟨hk, hyl⟩, hN, hS, hPr, h0m, hD⟩ ihO
  try simp only []
  simp only [] at hk hyl hN hS hPr h0m hD
  clear hq
  refine Run.nq ?_; refine Run.regionW hC (fun K hK => ?_); simp only [AW7, simprocAttr, hX]; (repeat (with_reducible refine And.intro ?_ ?_); exact vc0); refine hK _ ?_; clear hK K; refine Run.nq ?_
  refine Run.nq ?_; refine Run.condW (by simp only [AW7, simprocAttr, hX]; rfl) (by simp only [AW7, simprocAttr, hX]) ?_ ?_
  rotate_left
  · intro h3
    have hke : k = ys.length := by rw [decide_eq_false_iff_not] at h3; omega
    have hcomp : ∀ z, z ∈ rw2 ys ↔ Pre c x z := Pre.mem_up hc hx hPr h0m (fun y hy i hi hlt hpi => by
      obtain ⟨j, hj, rfl⟩ := mem_rw2_iff.1 hy
      rw [rwg] at hlt hpi ⊢
      exact hD j (by rw [rwl]; exact hj) (by omega) i hi hlt hpi)
    have hnd : (rw2 ys).Nodup := List.Pairwise.imp (fun {a b} h e => by rw [e, cmpW_self] at h; omega) hS
    obtain ⟨e1, e2⟩ := few_on hnd hcomp (by rw [rwl]; exact hyl)
    refine Run.exit rfl ?_; refine Run.nq ?_
    refine Run.nq ?_; refine Run.regionW hC (fun K hK => ?_); simp only [AW7, simprocAttr, hX]; (repeat (with_reducible refine And.intro ?_ ?_); exact vc0); refine hK _ ?_; clear hK K; refine Run.nq ?_
    refine Run.reK hpin [4, 5] [0] (by decide) (by simp) ?_; simp only [AR, AW7, simprocAttr]
    refine Run.retW [4, 5] (by decide) (by rw [hfn]; rfl) (by simp only [AW7, simprocAttr, hX]; rfl) (by simp only [AW7, simprocAttr, hX]) (hfin _ _ rfl rfl ?_)
    exact ⟨ys, 0, true, [.bool true], ⟨by rw [hpX, e2]; exact (srt_id hS).symm, rfl, by rw [hpB, e1]⟩, hN, rfl, rfl, rfl⟩
  intro h3
  have h3 : k < ys.length := by rw [decide_eq_true_eq] at h3; omega
  have hyp := hPr _ (mem_rw2 h3)
  have hny := hyp.nf hx
  have hgy := rwg ys k
  generalize hgy2 : (ys.getD k (0, [])).2 = y at *
  have hy15 : y.length ≤ 15 := by obtain ⟨_, _, v, _, _, h5⟩ := hyp; omega
  have hWy : wordB c y = true := wordB_iff.2 ⟨hc, hy15, hny.1⟩
  refine Run.nq ?_; refine Run.regionW hC (fun K hK => ?_); simp only [AW7, simprocAttr, hX]; (repeat (with_reducible refine And.intro ?_ ?_); exact vc0)
  simp only [hgy2]
  refine FunA.callW hP hT (c_spec_WeakCoversR c y hcl) (by simp only [AW7, simprocAttr]) ?_
  rintro rs o ⟨cs, g, nn, rest, ⟨hcs, rfl, rfl⟩, hcn, _, rfl, rfl⟩
  (try simp only [AW7, simprocAttr, hX]); (repeat (with_reducible refine And.intro ?_ ?_); exact vc0)
  (repeat (with_reducible refine And.intro ?_ ?_); exact vc0); refine hK _ ?_; clear hK K; refine Run.nq ?_
  refine Run.nq ?_; refine Run.regionW hC (fun K hK => ?_); simp only [AW7, simprocAttr, hX]; (repeat (with_reducible refine And.intro ?_ ?_); exact vc0); refine hK _ ?_; clear hK K; refine Run.nq ?_
  refine Run.reK hpin [0, 6, 8, 9, 10, 11] [0, 1, 2] (by decide) (by simp) ?_; simp only [AR, AW7, simprocAttr]
  have hcl2 := wcv_len c y
  rw [← hcs, rwl] at hcl2
  refine Run.loopI (X := List (Nat × List Int) × Nat) (fun s => ⟨68, [(0, true, .v (.sl false (.row false) (c))), (6, true, .v (.own 1 0)), (8, true, .v (.own 0 0)), (9, true, .v (.int .i64 (k))), (10, true, .v (.own 2 0)), (11, true, .v (.int .i64 (s.2)))], [.arr .lrow (s.1) 0 true, .arr .int (x) 0 true, .arr .lrow (cs) 0 true]⟩) (fun s => (k < s.1.length ∧ s.1.length ≤ 200 ∧ s.2 ≤ cs.length) ∧ (lb1 s.1).Nodup ∧ StrictW (rw2 s.1) ∧ (∀ z ∈ rw2 s.1, Pre c x z) ∧ [] ∈ rw2 s.1 ∧ DoneU c x (rw2 s.1) k ∧ (rw2 s.1).getD k [] = y ∧ ∀ m, m < s.2 → Pre c x ((rw2 cs).getD m []) → (rw2 cs).getD m [] ∈ rw2 s.1) (fun s => cs.length - s.2) ((ys, 0)) (⟨⟨h3, hyl, Nat.zero_le _⟩, hN, hS, hPr, h0m, hD, hgy.symm, fun m hm => by omega⟩) ?_ ?_
  · exact Le.sub (by first | rfl | simp) (by simp only [AW7, simprocAttr, hX]; try simp <;> try (first | rfl | exact ⟨rfl, rfl⟩ | exact ⟨rfl, rfl, rfl⟩))
  rintro ⟨ys2, i⟩ ⟨⟨hk2, hyl2, hi⟩, hN2, hS2, hPr2, h0m2, hD2, hyk, hM⟩ ih
  try simp only []
  simp only [] at hk2 hyl2 hi hN2 hS2 hPr2 h0m2 hD2 hyk hM
  clear hN hS hPr h0m hD
  refine Run.nq ?_; refine Run.regionW hC (fun K hK => ?_); simp only [AW7, simprocAttr, hX]; (repeat (with_reducible refine And.intro ?_ ?_); exact vc0); refine hK _ ?_; clear hK K; refine Run.nq ?_
  refine Run.nq ?_; refine Run.condW (by simp only [AW7, simprocAttr, hX]; rfl) (by simp only [AW7, simprocAttr, hX]) ?_ ?_
  rotate_left
  · intro h4
    have hie : i = cs.length := by rw [decide_eq_false_iff_not] at h4; omega
    have hD3 : DoneU c x (rw2 ys2) (k + 1) := by
      intro j hj hjk a ha
      by_cases e : j = k
      · rw [e, hyk]
        intro hlt hpi
        have hpl : (redL c (y ++ [(a : Int)])).length ≤ 15 := by obtain ⟨_, _, v, _, _, h5⟩ := hpi; omega
        have hin := wcv_has hWy ha (by rw [hny.2.1]; exact hlt) hpl
        rw [← hcs] at hin
        obtain ⟨m, hm, e2⟩ := mem_rw2_iff.1 hin
        rw [rwg] at e2
        rw [← e2] at hpi ⊢
        exact hM m (by omega) hpi
      · exact hD2 j hj (by omega) a ha
    refine Run.exit rfl ?_; refine Run.nq ?_
    refine Run.reK hpin [0, 6, 8, 9] [0, 1] (by decide) (by simp) ?_; simp only [AR, AW7, simprocAttr]
    refine Run.nq ?_; refine Run.regionW hC (fun K hK => ?_); simp (disch := omega) only [wrap_id, AW7, simprocAttr, hX]; (repeat (with_reducible refine And.intro ?_ ?_); exact vc0); refine hK _ ?_; clear hK K; refine Run.nq ?_
    refine Run.le ?_ (ihO ((ys2, k + 1)) (⟨⟨hk2, hyl2⟩, hN2, hS2, hPr2, h0m2, hD3⟩) (by (try simp only [List.length_append, List.length_cons, List.length_nil]); omega))
    exact Le.sub (by rfl) (by simp only [AW7, simprocAttr]; try simp)
  intro h4
  have h4 : i < cs.length := by rw [decide_eq_true_eq] at h4; omega
  have hzm := mem_rw2 h4
  rw [hcs] at hzm
  obtain ⟨hnz, hz15, hzy⟩ := wcv_nf hWy hzm
  rw [hny.2.1] at hzy
  have hzg := rwg cs i
  generalize hgz : (cs.getD i (0, [])).2 = z at *
  have hwz := wkB_pre hc hx hx15 hnz hz15
  have hrl : ∀ r ∈ ys2.map (·.2), r.length ≤ 1048576 := fun r hr => by
    have := ((hPr2 r hr).nf hx).2.2; omega
  refine Run.nq ?_; refine Run.regionW hC (fun K hK => ?_); simp only [AW7, simprocAttr, hX]; (repeat (with_reducible refine And.intro ?_ ?_); exact vc0)
  simp only [hgz]
  refine FunA.callW hP hT (c_spec_IsWeakBelow c z x hcl) (by simp only [AW7, simprocAttr]) ?_
  rintro rs o ⟨rfl, rfl⟩
  (try simp only [AW7, simprocAttr, hX]); (repeat (with_reducible refine And.intro ?_ ?_); exact vc0)
  simp only [hgz]
  refine .inl (FunA.callG hP hT (c_spec_l7In (ys2.map (·.2)) z (by simp; omega) hrl) (fun _ => rfl) (fun _ => by simp only [AW7, simprocAttr]) ?_)
  (try simp only [AW7, simprocAttr, hX]); (repeat (with_reducible refine And.intro ?_ ?_); exact vc0)
  (repeat (with_reducible refine And.intro ?_ ?_); exact vc0); refine hK _ ?_; clear hK K; refine Run.nq ?_
  have hmap : ys2.map (·.2) = rw2 ys2 := rfl
  refine Run.nq ?_; refine Run.condW (by simp only [AW7, simprocAttr, hX]; rfl) (by simp only [AW7, simprocAttr, hX]) ?_ ?_
  · intro h5
    have h5 : Pre c x z ∧ z ∉ rw2 ys2 := by
      cases hwk : wkB c z x with
      | false => rw [hwk] at h5; cases h5
      | true =>
        rw [hwk] at h5
        have h5 : (!decide (z ∈ rw2 ys2)) = true := h5
        exact ⟨hwz.1 hwk, by simpa using h5⟩
    refine Run.nq ?_; refine Run.regionW hC (fun K hK => ?_); simp only [AW7, simprocAttr, hX]; (repeat (with_reducible refine And.intro ?_ ?_); exact vc0); refine hK _ ?_; clear hK K; refine Run.nq ?_
    refine Run.nq ?_; refine Run.condW (by simp only [AW7, simprocAttr, hX]; rfl) (by simp only [AW7, simprocAttr, hX]) ?_ ?_
    · intro h6
      have h6 : 200 ≤ ys2.length := by rw [decide_eq_true_eq] at h6; omega
      have hnd : (rw2 ys2).Nodup := List.Pairwise.imp (fun {a b} h e => by rw [e, cmpW_self] at h; omega) hS2
      obtain ⟨e1, e2⟩ := few_off (L := z :: rw2 ys2) (List.nodup_cons.2 ⟨h5.2, hnd⟩) (fun t ht => by
        rcases List.mem_cons.1 ht with rfl | ht
        · exact h5.1
        · exact hPr2 t ht) (by simp [rw2]; omega)
      refine Run.nq ?_; refine Run.regionW hC (fun K hK => ?_); simp only [AW7, simprocAttr, hX]; (repeat (with_reducible refine And.intro ?_ ?_); exact vc0); refine hK _ ?_; clear hK K; refine Run.nq ?_
      refine Run.reK hpin [4, 5] [3] (by decide) (by simp) ?_; simp only [AR, AW7, simprocAttr]
      refine Run.retW [4, 5] (by decide) (by rw [hfn]; rfl) (by simp only [AW7, simprocAttr, hX]; rfl) (by simp only [AW7, simprocAttr, hX]) (hfin _ _ rfl rfl ?_)
      exact ⟨[], 0, true, [.bool false], ⟨by rw [hpX, e2]; rfl, rfl, by rw [hpB, e1]⟩, by simp [lb1], rfl, rfl, rfl⟩
    intro h6
    have h6 : ys2.length < 200 := by rw [decide_eq_false_iff_not] at h6; omega
    have hkr : k < (rw2 ys2).length := by rw [rwl]; exact hk2
    have hkeep := putS_keepk hS2 (w := z) hkr (by rw [hyk]; exact hzy)
    have hpl := putS_len z false (rw2 ys2)
    rw [rwl] at hpl
    refine Run.nq ?_; refine Run.regionW hC (fun K hK => ?_); simp only [AW7, simprocAttr, hX]; (repeat (with_reducible refine And.intro ?_ ?_); exact vc0)
    simp only [hgz]
    refine FunM.call hP hT (c_spec_l11Put ys2 z hN2 (by omega) (by omega) true) 0 0 (by simp only [AW7, simprocAttr]; rfl) (by simp) rfl (by simp only [AW7, simprocAttr]; try simp) ?_
    rintro rs o' obs' ⟨rfl, ys', hE3, hN3, h7⟩
    obtain ⟨rfl, rfl⟩ := List.cons.inj h7
    (try simp only [AW7, simprocAttr, hX]); (repeat (with_reducible refine And.intro ?_ ?_); exact vc0)
    (repeat (with_reducible refine And.intro ?_ ?_); exact vc0); refine hK _ ?_; clear hK K; refine Run.nq ?_
    rw [← hE3] at hkeep hpl
    rw [rwl] at hpl
    have hmem : ∀ t, t ∈ rw2 ys' ↔ t = z ∨ t ∈ rw2 ys2 := fun t => by rw [hE3]; exact putS_mem z _ t
    have hS3 : StrictW (rw2 ys') := by rw [hE3]; exact putS_strict z hS2
    have hP3 : ∀ t ∈ rw2 ys', Pre c x t := fun t ht => by
      rcases (hmem t).1 ht with rfl | ht
      · exact h5.1
      · exact hPr2 t ht
    have hD3 : DoneU c x (rw2 ys') k := fun j hj hjk a ha => by
      rw [(hkeep j (by omega)).2]
      intro hlt hpi
      exact (hmem _).2 (.inr (hD2 j (by omega) hjk a ha hlt hpi))
    have hy3 : (rw2 ys').getD k [] = y := by rw [(hkeep k (Nat.le_refl _)).2]; exact hyk
    have hM3 : ∀ m, m < i + 1 → Pre c x ((rw2 cs).getD m []) → (rw2 cs).getD m [] ∈ rw2 ys' := fun m hm hpi => by
      by_cases e : m = i
      · rw [e, ← hzg]; exact (hmem _).2 (.inl rfl)
      · exact (hmem _).2 (.inr (hM m (by omega) hpi))
    have hk3 : k < ys'.length := by have := (hkeep k (Nat.le_refl _)).1; rw [rwl] at this; exact this
    refine Run.reK hpin [0, 6, 8, 9, 10, 11] [3, 1, 2] (by decide) (by simp) ?_; simp only [AR, AW7, simprocAttr]
    refine Run.nq ?_; refine Run.regionW hC (fun K hK => ?_); simp (disch := omega) only [wrap_id, AW7, simprocAttr, hX]; (repeat (with_reducible refine And.intro ?_ ?_); exact vc0); refine hK _ ?_; clear hK K; refine Run.nq ?_
    refine Run.le ?_ (ih ((ys', i + 1)) (⟨⟨hk3, by simp only []; omega, h4⟩, hN3, hS3, hP3, (hmem _).2 (.inr h0m2), hD3, hy3, hM3⟩) (by (try simp only [List.length_append, List.length_cons, List.length_nil]); omega))
    exact Le.sub (by rfl) (by simp only [AW7, simprocAttr]; try simp)
  intro h5
  have hM3 : ∀ m, m < i + 1 → Pre c x ((rw2 cs).getD m []) → (rw2 cs).getD m [] ∈ rw2 ys2 := fun m hm hpi => by
    by_cases e : m = i
    · rw [e, ← hzg] at hpi ⊢
      rw [hwz.2 hpi] at h5
      have h5 : (!decide (z ∈ rw2 ys2)) = false := h5
      simpa using h5
    · exact hM m (by omega) hpi
  refine Run.reK hpin [0, 6, 8, 9, 10, 11] [0, 1, 2] (by decide) (by simp) ?_; simp only [AR, AW7, simprocAttr]
  refine Run.nq ?_; refine Run.regionW hC (fun K hK => ?_); simp (disch := omega) only [wrap_id, AW7, simprocAttr, hX]; (repeat (with_reducible refine And.intro ?_ ?_); exact vc0); refine hK _ ?_; clear hK K; refine Run.nq ?_
  refine Run.le ?_ (ih ((ys2, i + 1)) (⟨⟨hk2, hyl2, h4⟩, hN2, hS2, hPr2, h0m2, hD2, hyk, hM3⟩) (by (try simp only [List.length_append, List.length_cons, List.length_nil]); omega))
  exact Le.sub (by rfl) (by simp only [AW7, simprocAttr]; try simp)
theorem c_spec_PrefixesOf (c : List (List Int)) (w : List Int) (hcl : c.length ≤ 1048576) :
    FunA B 10 [.sl false (.row false) c, .sl false .int w] (fun rs o => rs = [.own 0 0, .bool (preB c w)] ∧ ∃ hs, hs.length = (preX c w).length ∧ o = [.mat hs (preX c w) 0 true]) :=
  (FunA.mat (by rfl) (post := fun rows nn rest => rows = preX c w ∧ nn = true ∧ rest = [.bool (preB c w)]) (c_spec_PrefixesOfR c w hcl)).mono fun rs o ⟨hs, rows, nn, rest, ⟨h1, h2, h3⟩, h4, h5, h6⟩ => by subst h1 h2 h3; exact ⟨h5, hs, h4, h6⟩
end Go.Proofs.Ytdhfonblpbpmmaa

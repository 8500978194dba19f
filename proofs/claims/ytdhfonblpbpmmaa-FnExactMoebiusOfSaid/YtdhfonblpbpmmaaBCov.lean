/- The elements right below an element in the Bruhat order: what the functions of both sides do. -/
import Derived.Test.YtdhfonblpbpmmaaCov
import Derived.Test.YtdhfonblpbpmmaaDel2
set_option linter.unusedVariables false
set_option linter.unusedSimpArgs false
namespace Go.Proofs.Ytdhfonblpbpmmaa
open Go Go.Aw Go.Cox

def delA (x : List Int) (k : Nat) : List Int := x.take k ++ x.drop (k + 1)
def bcF (c : List (List Int)) (x : List Int) (k : Nat) : Option (List Int) := if (redL c (delA x k)).length + 1 = x.length then some (redL c (delA x k)) else none
def bcT (c : List (List Int)) (x : List Int) (n : Nat) : List (List Int) := (List.range n).filterMap (bcF c x)
noncomputable def bcv (c : List (List Int)) (w : List Int) : List (List Int) := if wordB c w then srt (bcT c (redL c w) (redL c w).length) else []

theorem bcT_snoc (c : List (List Int)) (w : List Int) (n : Nat) : bcT c w (n + 1) = bcT c w n ++ (bcF c w n).toList := by
  unfold bcT
  rw [List.range_succ, List.filterMap_append]
  cases h : bcF c w n <;> simp [h]
theorem bcT_len (c : List (List Int)) (w : List Int) : ∀ n, (bcT c w n).length ≤ n
  | 0 => by simp [bcT]
  | n + 1 => by
    have := bcT_len c w n
    rw [bcT_snoc, List.length_append]
    cases bcF c w n <;> simp <;> omega
theorem bcF_some {c : List (List Int)} {w : List Int} {i : Nat} {x : List Int} (h : bcF c w i = some x) : x = redL c (delA w i) ∧ x.length + 1 = w.length := by
  unfold bcF at h
  split at h
  · rename_i h2; cases h; exact ⟨rfl, h2⟩
  · cases h
theorem delA_app (u t : List Int) (a : Int) {k : Nat} (h : u.length = k) : delA (u ++ a :: t) k = u ++ t := by
  subst h
  simp [delA]
theorem delA_letters {n : Nat} {x : List Int} (h : letters n x) (k : Nat) : letters n (delA x k) := by
  unfold delA
  exact letters_append.2 ⟨fun i hi => h i (List.mem_of_mem_take hi), fun i hi => h i (List.mem_of_mem_drop hi)⟩
theorem delA_len {x : List Int} {k : Nat} (h : k < x.length) : (delA x k).length + 1 = x.length := by unfold delA; simp; omega
theorem red_del_inj {c : List (List Int)} (hc : CartanP c) {x : List Int} (hR : Red c x) (hl : x.length ≤ 15) {i j : Nat} (hij : i < j) (hj : j < x.length) (h : redL c (delA x i) = redL c (delA x j)) : False := by
  obtain ⟨u, a, v, b, z, hx, h1, h2⟩ : ∃ u a v b z, x = u ++ a :: (v ++ b :: z) ∧ u.length = i ∧ (u ++ a :: v).length = j := by
    refine ⟨x.take i, x[i]'(by omega), (x.drop (i + 1)).take (j - (i + 1)), x[j]'hj, x.drop (j + 1), ?_, by simp; omega, by simp; omega⟩
    have e1 : x.drop (i + 1) = (x.drop (i + 1)).take (j - (i + 1)) ++ (x[j]'hj :: x.drop (j + 1)) := by
      have e2 := (List.take_append_drop (j - (i + 1)) (x.drop (i + 1))).symm
      rw [List.drop_drop, show i + 1 + (j - (i + 1)) = j by omega, List.drop_eq_getElem_cons hj] at e2
      exact e2
    rw [← e1, ← List.drop_eq_getElem_cons (by omega : i < x.length), List.take_append_drop]
  have hd1 : delA x i = u ++ (v ++ b :: z) := by rw [hx]; exact delA_app _ _ _ h1
  have hd2 : delA x j = u ++ a :: (v ++ z) := by
    rw [hx, show u ++ a :: (v ++ b :: z) = (u ++ a :: v) ++ b :: z by simp, delA_app _ _ _ h2]; simp
  have hlx := hR.1
  have k1 := delA_len (x := x) (k := i) (by omega)
  have k2 := delA_len (x := x) (k := j) hj
  have e1 := (red_spec hc (delA_letters hlx i) (by omega)).2.2.2.1
  have e2 := (red_spec hc (delA_letters hlx j) (by omega)).2.2.2.1
  rw [h, e2, hd1, hd2, image_append, image_append] at e1
  rw [hx] at hlx
  obtain ⟨lu, la⟩ := letters_append.1 hlx
  obtain ⟨la, lv⟩ := letters_cons.1 la
  have k := congrArg (actL c u.reverse) e1
  rw [act_rev hc u lu (imageL_length c _), act_rev hc u lu (imageL_length c _)] at k
  have hm : imageL c x = imageL c (u ++ (v ++ z)) := by
    rw [hx, image_append, image_append, image_cons, ← k, image_cons, refl2 hc la (imageL_length c _)]
  have huz : letters c.length (u ++ (v ++ z)) := by
    obtain ⟨l1, l2⟩ := letters_append.1 lv
    exact letters_append.2 ⟨lu, letters_append.2 ⟨l1, (letters_cons.1 l2).2⟩⟩
  obtain ⟨L, hL1, _, hL3⟩ := Far.image hc huz
  rw [← hm] at hL3
  have := hR.2.uniq hc hL3
  have hxl : x.length = u.length + (v.length + z.length) + 2 := by rw [hx]; simp; omega
  simp at hL1
  omega
theorem bcT_nodup {c : List (List Int)} (hc : CartanP c) {x : List Int} (hR : Red c x) (hl : x.length ≤ 15) : (bcT c x x.length).Nodup := by
  unfold bcT
  have hp : (List.range x.length).Pairwise (fun i j => i < j ∧ j < x.length) := by
    refine List.pairwise_iff_getElem.2 fun i j hi hj hij => ?_
    simp only [List.getElem_range]
    simp at hi hj
    omega
  refine List.Pairwise.filterMap (bcF c x) (fun i j h a hx b hy e => ?_) hp
  subst e
  obtain ⟨h1, _⟩ := bcF_some hx
  obtain ⟨h2, _⟩ := bcF_some hy
  exact red_del_inj hc hR hl h.1 h.2 (by rw [← h1, ← h2])
theorem bcT_rows {c : List (List Int)} {x : List Int} (hl : x.length ≤ 15) (n : Nat) : ∀ r ∈ bcT c x n, r.length ≤ 15 := by
  intro r hr
  unfold bcT at hr
  obtain ⟨i, _, hi⟩ := List.mem_filterMap.1 hr
  have := (bcF_some hi).2
  omega
theorem bcv_len (c : List (List Int)) (w : List Int) : (bcv c w).length ≤ 15 := by
  unfold bcv
  cases hw : wordB c w with
  | false => simp
  | true =>
    obtain ⟨hc, h2, h3⟩ := wordB_iff.1 hw
    have h1 := srt_len (bcT c (redL c w) (redL c w).length)
    have h4 := bcT_len c (redL c w) (redL c w).length
    have := (red_spec hc h3 (by omega)).2.1
    simp only [if_true]
    omega
theorem bcv_rows (c : List (List Int)) (w : List Int) : ∀ r ∈ bcv c w, r.length ≤ 15 := by
  intro r hr
  unfold bcv at hr
  cases hw : wordB c w with
  | false => rw [hw] at hr; simp at hr
  | true =>
    obtain ⟨hc, h2, h3⟩ := wordB_iff.1 hw
    rw [hw, if_pos rfl, (srt_spec _).2] at hr
    have := (red_spec hc h3 (by omega)).2.1
    exact bcT_rows (by omega) _ r hr
theorem strict_adj {L : List (List Int)} (h : StrictW L) {i : Nat} (hi : i + 1 < L.length) : L.getD (i + 1) [] ≠ L.getD i [] := by
  rw [getD_eq hi, getD_eq (by omega : i < L.length)]
  have := List.pairwise_iff_getElem.1 h i (i + 1) (by omega) hi (by omega)
  intro e
  rw [e, cmpW_self] at this
  omega
theorem rw2_getD (ys : List (Nat × List Int)) (k : Nat) : (ys.getD k (0, [])).2 = (rw2 ys).getD k [] := by
  unfold rw2
  simp only [List.getD, List.getElem?_map]
  cases ys[k]? <;> rfl

set_option maxHeartbeats 1000000 in
theorem c_spec_BruhatCoversR (c : List (List Int)) (w : List Int) (hcl : c.length ≤ 1048576) :
    FunA B 47 [.sl false (.row false) c, .sl false .int w] (fun rs o => ∃ ys g nn rest, (rw2 ys = bcv c w ∧ nn = true ∧ rest = []) ∧ (lb1 ys).Nodup ∧ rest.all flatAV = true ∧ rs = .own 0 g :: rest ∧ o = [.arr .lrow ys g nn]) := by
  refine FunA.walk B_ok (fn := Try.f47) (fun vs w => Try.call47 vs w) Try.func47 rfl (by rw [Try.ntmps47]; simp) (fun C hC hP hT hΓ hbt hfn hpin hfin => ?_); have hX := BX; rw [← hΓ, ← hbt.1, ← hbt.2] at hX; rw [Try.ntmps47]; simp only [AW7, simprocAttr, hX]
  refine Run.nq ?_; refine Run.regionW hC (fun K hK => ?_); simp only [AW7, simprocAttr, hX]; (repeat (with_reducible refine And.intro ?_ ?_); exact vc0); refine hK _ ?_; clear hK K; refine Run.nq ?_
  refine Run.nq ?_; refine Run.regionW hC (fun K hK => ?_); simp only [AW7, simprocAttr, hX]; (repeat (with_reducible refine And.intro ?_ ?_); exact vc0); refine hK _ ?_; clear hK K; refine Run.nq ?_
  refine Run.nq ?_; refine Run.regionW hC (fun K hK => ?_); simp only [AW7, simprocAttr, hX]; (repeat (with_reducible refine And.intro ?_ ?_); exact vc0)
  refine FunA.callW hP hT (c_spec_NormalForm c w hcl) (by simp only [AW7, simprocAttr]) ?_
  rintro rs o ⟨rfl, rfl⟩
  (try simp only [AW7, simprocAttr, hX]); (repeat (with_reducible refine And.intro ?_ ?_); exact vc0)
  (repeat (with_reducible refine And.intro ?_ ?_); exact vc0); refine hK _ ?_; clear hK K; refine Run.nq ?_
  refine Run.nq ?_; refine Run.regionW hC (fun K hK => ?_); simp only [AW7, simprocAttr, hX]; (repeat (with_reducible refine And.intro ?_ ?_); exact vc0); refine hK _ ?_; clear hK K; refine Run.nq ?_
  cases hwb : wordB c w with
  | false =>
    have hz : bcv c w = [] := by unfold bcv; rw [hwb]; rfl
    refine Run.loopI (X := Unit) (fun _ => ⟨41, [(0, true, .v (.sl false (.row false) c)), (5, true, .v (.own 0 0)), (6, true, .v (.own 1 0)), (7, true, .v (.bool false)), (8, true, .v (.int .i64 0))], [.arr .lrow [] 0 true, .arr .int (nfW c w) 0 true]⟩) (fun _ => True) (fun _ => 0) () trivial ?_ ?_
    · exact Le.sub (by rfl) (by simp only [AW7, simprocAttr, hX]; try simp)
    rintro _ _ _
    refine Run.nq ?_; refine Run.regionW hC (fun K hK => ?_); simp only [AW7, simprocAttr, hX]; (repeat (with_reducible refine And.intro ?_ ?_); exact vc0); refine hK _ ?_; clear hK K; refine Run.nq ?_
    refine Run.nq ?_; refine Run.condW (by simp only [AW7, simprocAttr, hX]; rfl) (by simp only [AW7, simprocAttr, hX]) ?_ ?_
    · intro h; cases hx : decide ((0 : Int) < (nfW c w).length) <;> rw [hx] at h <;> cases h
    intro _
    refine Run.exit rfl ?_; refine Run.nq ?_
    refine Run.nq ?_; refine Run.regionW hC (fun K hK => ?_); simp only [AW7, simprocAttr, hX]; (repeat (with_reducible refine And.intro ?_ ?_); exact vc0); refine hK _ ?_; clear hK K; refine Run.nq ?_
    refine Run.reK hpin [4] [0] (by decide) (by simp) ?_; simp only [AR, AW7, simprocAttr]
    refine Run.retW [4] (by decide) (by rw [hfn]; rfl) (by simp only [AW7, simprocAttr, hX]; rfl) (by simp only [AW7, simprocAttr, hX]) (hfin _ _ rfl rfl ?_)
    exact ⟨[], 0, true, [], ⟨hz.symm, rfl, rfl⟩, by simp [lb1], rfl, rfl, rfl⟩
  | true =>
    have hz : bcv c w = srt (bcT c (redL c w) (redL c w).length) := by unfold bcv; rw [hwb]; rfl
    obtain ⟨hc, h2, h3⟩ := wordB_iff.1 hwb
    rw [nfW_on hwb]
    obtain ⟨a1, a2, a3, a4, a5⟩ := red_spec hc h3 (by omega)
    generalize hy : redL c w = x at *
    refine Run.reK hpin [0, 5, 6, 7, 8] [0, 1] (by decide) (by simp) ?_; simp only [AR, AW7, simprocAttr]
    refine Run.loopI (X := List (Nat × List Int) × Nat) (fun y => ⟨41, [(0, true, .v (.sl false (.row false) (c))), (5, true, .v (.own 0 0)), (6, true, .v (.own 1 0)), (7, true, .v (.bool (true))), (8, true, .v (.int .i64 (y.2)))], [.arr .lrow (y.1) 0 true, .arr .int (x) 0 true]⟩) (fun y => y.2 ≤ x.length ∧ rw2 y.1 = srt (bcT c x y.2) ∧ (lb1 y.1).Nodup) (fun y => x.length - y.2) (([], 0)) (⟨Nat.zero_le _, rfl, by simp [lb1]⟩) ?_ ?_
    · exact Le.sub (by first | rfl | simp) (by simp only [AW7, simprocAttr, hX]; try simp <;> try (first | rfl | exact ⟨rfl, rfl⟩ | exact ⟨rfl, rfl, rfl⟩))
    rintro ⟨ys, i⟩ ⟨hi, hE, hN⟩ ih
    try simp only []
    simp only [] at hi hE hN
    have hyl : ys.length ≤ i := by
      have := bcT_len c x i
      have h4 := srt_len (bcT c x i)
      rw [← hE] at h4
      have e : (rw2 ys).length = ys.length := by simp [rw2]
      omega
    refine Run.nq ?_; refine Run.regionW hC (fun K hK => ?_); simp only [AW7, simprocAttr, hX]; (repeat (with_reducible refine And.intro ?_ ?_); exact vc0); refine hK _ ?_; clear hK K; refine Run.nq ?_
    refine Run.nq ?_; refine Run.condW (by simp only [AW7, simprocAttr, hX]; rfl) (by simp only [AW7, simprocAttr, hX]) ?_ ?_
    rotate_left
    · intro h
      have hie : i = x.length := by
        cases hx : decide ((i : Int) < x.length) with
        | true => rw [hx] at h; cases h
        | false => rw [decide_eq_false_iff_not] at hx; omega
      refine Run.exit rfl ?_; refine Run.nq ?_
      refine Run.nq ?_; refine Run.regionW hC (fun K hK => ?_); simp only [AW7, simprocAttr, hX]; (repeat (with_reducible refine And.intro ?_ ?_); exact vc0); refine hK _ ?_; clear hK K; refine Run.nq ?_
      refine Run.reK hpin [4] [0] (by decide) (by simp) ?_; simp only [AR, AW7, simprocAttr]
      refine Run.retW [4] (by decide) (by rw [hfn]; rfl) (by simp only [AW7, simprocAttr, hX]; rfl) (by simp only [AW7, simprocAttr, hX]) (hfin _ _ rfl rfl ?_)
      exact ⟨ys, 0, true, [], ⟨by rw [hz, ← hie]; exact hE, rfl, rfl⟩, hN, rfl, rfl, rfl⟩
    intro h
    have h : i < x.length := by
      cases hx : decide ((i : Int) < x.length) with
      | true => rw [decide_eq_true_eq] at hx; omega
      | false => rw [hx] at h; cases h
    have hdl := delA_len h
    refine Run.nq ?_; refine Run.regionW hC (fun K hK => ?_); simp only [AW7, simprocAttr, hX]; (repeat (with_reducible refine And.intro ?_ ?_); exact vc0)
    refine FunA.callW hP hT (c_spec_DeleteAt x i (by omega)) (by simp only [AW7, simprocAttr]) ?_
    rintro rs o ⟨rfl, rfl⟩
    (try simp only [AW7, simprocAttr, hX]); (repeat (with_reducible refine And.intro ?_ ?_); exact vc0)
    refine FunA.callW hP hT (c_spec_l8Normal c (x.take i ++ x.drop (i + 1)) hc (delA_letters a1 i) (by have : (x.take i ++ x.drop (i + 1)).length = (delA x i).length := rfl; omega)) (by simp only [AW7, simprocAttr]) ?_
    rintro rs o ⟨rfl, rfl⟩
    (try simp only [AW7, simprocAttr, hX]); (repeat (with_reducible refine And.intro ?_ ?_); exact vc0)
    (repeat (with_reducible refine And.intro ?_ ?_); exact vc0); refine hK _ ?_; clear hK K; refine Run.nq ?_
    generalize hg0 : redL c (x.take i ++ x.drop (i + 1)) = d at *
    have hg : redL c (delA x i) = d := hg0
    have hdd : d.length ≤ 15 := by rw [← hg]; have := (red_spec hc (delA_letters a1 i) (by omega)).2.1; omega
    refine Run.nq ?_; refine Run.regionW hC (fun K hK => ?_); simp (disch := omega) only [wrap_id, AW7, simprocAttr, hX]; (repeat (with_reducible refine And.intro ?_ ?_); exact vc0); refine hK _ ?_; clear hK K; refine Run.nq ?_
    refine Run.nq ?_; refine Run.condW (by simp only [AW7, simprocAttr, hX]; rfl) (by simp only [AW7, simprocAttr, hX]) ?_ ?_
    · intro h5
      have h5 : d.length + 1 = x.length := by simp at h5; omega
      have hf : bcF c x i = some d := by unfold bcF; rw [hg, if_pos h5]
      refine Run.reK hpin [0, 5, 6, 7, 8, 9] [0, 1, 3] (by decide) (by simp) ?_; simp only [AR, AW7, simprocAttr]
      refine Run.nq ?_; refine Run.regionW hC (fun K hK => ?_); simp only [AW7, simprocAttr, hX]; (repeat (with_reducible refine And.intro ?_ ?_); exact vc0)
      refine FunM.call hP hT (c_spec_l11Put ys d hN (by omega) (by omega) true) 0 0 (by simp only [AW7, simprocAttr]; rfl) (by simp) rfl (by simp only [AW7, simprocAttr]; try simp) ?_
      rintro rs o' obs' ⟨rfl, ys', hE2, hN2, h6⟩
      obtain ⟨rfl, rfl⟩ := List.cons.inj h6
      (try simp only [AW7, simprocAttr, hX]); (repeat (with_reducible refine And.intro ?_ ?_); exact vc0)
      (repeat (with_reducible refine And.intro ?_ ?_); exact vc0); refine hK _ ?_; clear hK K; refine Run.nq ?_
      have hE3 : rw2 ys' = srt (bcT c x (i + 1)) := by rw [hE2, hE, bcT_snoc, hf]; exact (srt_snoc _ _).symm
      refine Run.reK hpin [0, 5, 6, 7, 8] [3, 1] (by decide) (by simp) ?_; simp only [AR, AW7, simprocAttr]
      refine Run.nq ?_; refine Run.regionW hC (fun K hK => ?_); simp (disch := omega) only [wrap_id, AW7, simprocAttr, hX]; (repeat (with_reducible refine And.intro ?_ ?_); exact vc0); refine hK _ ?_; clear hK K; refine Run.nq ?_
      refine Run.le ?_ (ih ((ys', i + 1)) (⟨by omega, hE3, hN2⟩) (by (try simp only [List.length_append, List.length_cons, List.length_nil]); omega))
      exact Le.sub (by rfl) (by simp only [AW7, simprocAttr]; try simp)
    intro h5
    have h5 : ¬ d.length + 1 = x.length := by intro e; rw [beq_eq_false_iff_ne] at h5; omega
    have hf : bcF c x i = none := by unfold bcF; rw [hg, if_neg h5]
    have hE2 : rw2 ys = srt (bcT c x (i + 1)) := by rw [hE, bcT_snoc, hf]; simp
    refine Run.reK hpin [0, 5, 6, 7, 8] [0, 1] (by decide) (by simp) ?_; simp only [AR, AW7, simprocAttr]
    refine Run.nq ?_; refine Run.regionW hC (fun K hK => ?_); simp (disch := omega) only [wrap_id, AW7, simprocAttr, hX]; (repeat (with_reducible refine And.intro ?_ ?_); exact vc0); refine hK _ ?_; clear hK K; refine Run.nq ?_
    refine Run.le ?_ (ih ((ys, i + 1)) (⟨h, hE2, hN⟩) (by (try simp only [List.length_append, List.length_cons, List.length_nil]); omega))
    exact Le.sub (by rfl) (by simp only [AW7, simprocAttr]; try simp)
theorem c_spec_BruhatCovers (c : List (List Int)) (w : List Int) (hcl : c.length ≤ 1048576) :
    FunA B 47 [.sl false (.row false) c, .sl false .int w] (fun rs o => rs = [.own 0 0] ∧ ∃ hs, hs.length = (bcv c w).length ∧ o = [.mat hs (bcv c w) 0 true]) :=
  (FunA.mat (by rfl) (post := fun rows nn rest => rows = bcv c w ∧ nn = true ∧ rest = []) (c_spec_BruhatCoversR c w hcl)).mono fun rs o ⟨hs, rows, nn, rest, ⟨h1, h2, h3⟩, h4, h5, h6⟩ => by subst h1 h2 h3; exact ⟨h5, hs, h4, h6⟩
end Go.Proofs.Ytdhfonblpbpmmaa

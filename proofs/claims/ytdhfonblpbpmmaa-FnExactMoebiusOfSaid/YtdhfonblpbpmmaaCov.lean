/- The elements right above an element in the weak order: what the functions of both sides do. -/
import Derived.Test.YtdhfonblpbpmmaaOrd
import Derived.Test.YtdhfonblpbpmmaaParts
set_option linter.unusedVariables false
set_option linter.unusedSimpArgs false
namespace Go.Proofs.Ytdhfonblpbpmmaa
open Go Go.Aw Go.Cox

def covL (c : List (List Int)) (w : List Int) (i : Nat) : List Int := redL c (w ++ [(i : Int)])
def wkF (c : List (List Int)) (w : List Int) (i : Nat) : Option (List Int) := if (redL c w).length < (covL c w i).length ∧ (covL c w i).length ≤ 15 then some (covL c w i) else none
def wkT (c : List (List Int)) (w : List Int) (n : Nat) : List (List Int) := (List.range n).filterMap (wkF c w)
noncomputable def wcv (c : List (List Int)) (w : List Int) : List (List Int) := if wordB c w then srt (wkT c w c.length) else []

theorem wkT_snoc (c : List (List Int)) (w : List Int) (n : Nat) : wkT c w (n + 1) = wkT c w n ++ (wkF c w n).toList := by
  unfold wkT
  rw [List.range_succ, List.filterMap_append]
  cases h : wkF c w n <;> simp [h]
theorem wkT_len (c : List (List Int)) (w : List Int) : ∀ n, (wkT c w n).length ≤ n
  | 0 => by simp [wkT]
  | n + 1 => by
    have := wkT_len c w n
    rw [wkT_snoc, List.length_append]
    cases wkF c w n <;> simp <;> omega
theorem wkF_some {c : List (List Int)} {w : List Int} {i : Nat} {x : List Int} (h : wkF c w i = some x) : x = covL c w i ∧ (redL c w).length < x.length ∧ x.length ≤ 15 := by
  unfold wkF at h
  split at h
  · rename_i h2; cases h; exact ⟨rfl, h2⟩
  · cases h
theorem ref_ones {c : List (List Int)} (hc : CartanP c) {i j : Nat} (hi : i < c.length) (hj : j < c.length) (h : reflL c i (ones c.length) = reflL c j (ones c.length)) : i = j := by
  by_cases e : i = j
  · exact e
  exfalso
  have o1 : ∀ k, k < c.length → (ones c.length).getD k 0 = 1 := fun k hk => by simp [ones, List.getD, hk]
  have ol := ones_length c.length
  have hA := matA_cartan hc
  have d1 : ent c i i = 2 := hA.diag i hi
  have d2 : ent c i j ≤ 0 := hA.nonpos i j hi hj e
  have g1 := reflL_get c (i : Int) (ones c.length) i (by omega)
  have g2 := reflL_get c (j : Int) (ones c.length) i (by omega)
  rw [h, g2] at g1
  simp only [Int.toNat_natCast] at g1
  rw [o1 i hi, o1 j hj] at g1
  omega
theorem covL_inj {c : List (List Int)} (hc : CartanP c) {w : List Int} (hw : letters c.length w) (hl : w.length ≤ 15) {i j : Nat} (hi : i < c.length) (hj : j < c.length) (h : covL c w i = covL c w j) : i = j := by
  have l1 : letters c.length (w ++ [(i : Int)]) := letters_append.2 ⟨hw, letters_cons.2 ⟨by omega, letters_nil _⟩⟩
  have l2 : letters c.length (w ++ [(j : Int)]) := letters_append.2 ⟨hw, letters_cons.2 ⟨by omega, letters_nil _⟩⟩
  have e1 := (red_spec hc l1 (by simp; omega)).2.2.2.1
  have e2 := (red_spec hc l2 (by simp; omega)).2.2.2.1
  unfold covL at h
  rw [h, e2, image_append, image_append] at e1
  have k := congrArg (actL c w.reverse) e1
  rw [act_rev hc w hw (imageL_length c _), act_rev hc w hw (imageL_length c _)] at k
  exact (ref_ones hc hj hi k).symm
theorem wkT_nodup {c : List (List Int)} (hc : CartanP c) {w : List Int} (hw : letters c.length w) (hl : w.length ≤ 15) : (wkT c w c.length).Nodup := by
  unfold wkT
  have hp : (List.range c.length).Pairwise (fun i j => i < c.length ∧ j < c.length ∧ i ≠ j) := by
    refine List.pairwise_iff_getElem.2 fun i j hi hj hij => ?_
    simp only [List.getElem_range]
    simp at hi hj
    omega
  refine List.Pairwise.filterMap (wkF c w) (fun i j h x hx y hy e => ?_) hp
  subst e
  obtain ⟨h1, _⟩ := wkF_some hx
  obtain ⟨h2, _⟩ := wkF_some hy
  exact h.2.2 (covL_inj hc hw hl h.1 h.2.1 (by rw [← h1, ← h2]))

theorem wcv_len (c : List (List Int)) (w : List Int) : (wcv c w).length ≤ 4 := by
  unfold wcv
  cases hw : wordB c w with
  | false => simp
  | true =>
    have hc := (wordB_iff.1 hw).1
    have h1 := srt_len (wkT c w c.length)
    have h2 := wkT_len c w c.length
    have := hc.2.1
    simp only [if_true]
    omega
theorem wcv_rows (c : List (List Int)) (w : List Int) : ∀ r ∈ wcv c w, r.length ≤ 15 := by
  intro r hr
  unfold wcv at hr
  cases hw : wordB c w with
  | false => rw [hw] at hr; simp at hr
  | true =>
    rw [hw, if_pos rfl, (srt_spec _).2] at hr
    unfold wkT at hr
    obtain ⟨i, _, hi⟩ := List.mem_filterMap.1 hr
    exact (wkF_some hi).2.2
theorem rw2_mem {ys : List (Nat × List Int)} {a : List Int} (h : a ∈ ys.map (·.2)) : a ∈ rw2 ys := h

theorem nfW_on {c : List (List Int)} {w : List Int} (h : wordB c w = true) : nfW c w = redL c w := by simp [nfW, h]
theorem cov_red {c : List (List Int)} (hc : CartanP c) {w : List Int} (hw : letters c.length w) (hl : w.length ≤ 15) (i : Nat) : redL c (redL c w ++ [(i : Int)]) = covL c w i := by
  obtain ⟨a1, a2, a3, a4, a5⟩ := red_spec hc hw (by omega)
  refine red_eq ?_
  rw [image_append, image_append]
  exact same_elt hc a1 hw a4 (imageL_length c _)

set_option maxHeartbeats 1000000 in
theorem c_spec_WeakCoversR (c : List (List Int)) (w : List Int) (hcl : c.length ≤ 1048576) :
    FunA B 32 [.sl false (.row false) c, .sl false .int w] (fun rs o => ∃ ys g nn rest, (rw2 ys = wcv c w ∧ nn = true ∧ rest = []) ∧ (lb1 ys).Nodup ∧ rest.all flatAV = true ∧ rs = .own 0 g :: rest ∧ o = [.arr .lrow ys g nn]) := by
  refine FunA.walk B_ok (fn := Try.f32) (fun vs w => Try.call32 vs w) Try.func32 rfl (by rw [Try.ntmps32]; simp) (fun C hC hP hT hΓ hbt hfn hpin hfin => ?_); have hX := BX; rw [← hΓ, ← hbt.1, ← hbt.2] at hX; rw [Try.ntmps32]; simp only [AW7, simprocAttr, hX]
  refine Run.nq ?_; refine Run.regionW hC (fun K hK => ?_); simp only [AW7, simprocAttr, hX]; (repeat (with_reducible refine And.intro ?_ ?_); exact vc0); refine hK _ ?_; clear hK K; refine Run.nq ?_
  refine Run.nq ?_; refine Run.regionW hC (fun K hK => ?_); simp only [AW7, simprocAttr, hX]; (repeat (with_reducible refine And.intro ?_ ?_); exact vc0); refine hK _ ?_; clear hK K; refine Run.nq ?_
  refine Run.nq ?_; refine Run.regionW hC (fun K hK => ?_); simp only [AW7, simprocAttr, hX]; (repeat (with_reducible refine And.intro ?_ ?_); exact vc0)
  refine FunA.callW hP hT (c_spec_NormalForm c w hcl) (by simp only [AW7, simprocAttr]) ?_
  rintro rs o ⟨rfl, rfl⟩
  (try simp only [AW7, simprocAttr, hX]); (repeat (with_reducible refine And.intro ?_ ?_); exact vc0)
  (repeat (with_reducible refine And.intro ?_ ?_); exact vc0); refine hK _ ?_; clear hK K; refine Run.nq ?_
  refine Run.nq ?_; refine Run.regionW hC (fun K hK => ?_); simp only [AW7, simprocAttr, hX]; (repeat (with_reducible refine And.intro ?_ ?_); exact vc0); refine hK _ ?_; clear hK K; refine Run.nq ?_
  cases hwb : wordB c w with
  | false =>
    have hz : wcv c w = [] := by unfold wcv; rw [hwb]; rfl
    refine Run.loopI (X := Unit) (fun _ => ⟨46, [(0, true, .v (.sl false (.row false) c)), (5, true, .v (.own 0 0)), (6, true, .v (.own 1 0)), (7, true, .v (.bool false)), (8, true, .v (.int .i64 0))], [.arr .lrow [] 0 true, .arr .int (nfW c w) 0 true]⟩) (fun _ => True) (fun _ => 0) () trivial ?_ ?_
    · exact Le.sub (by rfl) (by simp only [AW7, simprocAttr, hX]; try simp)
    rintro _ _ _
    refine Run.nq ?_; refine Run.regionW hC (fun K hK => ?_); simp only [AW7, simprocAttr, hX]; (repeat (with_reducible refine And.intro ?_ ?_); exact vc0); refine hK _ ?_; clear hK K; refine Run.nq ?_
    refine Run.nq ?_; refine Run.condW (by simp only [AW7, simprocAttr, hX]; rfl) (by simp only [AW7, simprocAttr, hX]) ?_ ?_
    · intro h; cases hx : decide ((0 : Int) < c.length) <;> rw [hx] at h <;> cases h
    intro _
    refine Run.exit rfl ?_; refine Run.nq ?_
    refine Run.nq ?_; refine Run.regionW hC (fun K hK => ?_); simp only [AW7, simprocAttr, hX]; (repeat (with_reducible refine And.intro ?_ ?_); exact vc0); refine hK _ ?_; clear hK K; refine Run.nq ?_
    refine Run.reK hpin [4] [0] (by decide) (by simp) ?_; simp only [AR, AW7, simprocAttr]
    refine Run.retW [4] (by decide) (by rw [hfn]; rfl) (by simp only [AW7, simprocAttr, hX]; rfl) (by simp only [AW7, simprocAttr, hX]) (hfin _ _ rfl rfl ?_)
    exact ⟨[], 0, true, [], ⟨hz.symm, rfl, rfl⟩, by simp [lb1], rfl, rfl, rfl⟩
  | true =>
    have hz : wcv c w = srt (wkT c w c.length) := by unfold wcv; rw [hwb]; rfl
    obtain ⟨hc, h2, h3⟩ := wordB_iff.1 hwb
    have hn := hc.2.1
    rw [nfW_on hwb]
    obtain ⟨a1, a2, a3, a4, a5⟩ := red_spec hc h3 (by omega)
    refine Run.reK hpin [0, 5, 6, 7, 8] [0, 1] (by decide) (by simp) ?_; simp only [AR, AW7, simprocAttr]
    refine Run.loopI (X := List (Nat × List Int) × Nat) (fun x => ⟨46, [(0, true, .v (.sl false (.row false) (c))), (5, true, .v (.own 0 0)), (6, true, .v (.own 1 0)), (7, true, .v (.bool (true))), (8, true, .v (.int .i64 (x.2)))], [.arr .lrow (x.1) 0 true, .arr .int ((redL c w)) 0 true]⟩) (fun x => x.2 ≤ c.length ∧ rw2 x.1 = srt (wkT c w x.2) ∧ (lb1 x.1).Nodup) (fun x => c.length - x.2) (([], 0)) (⟨Nat.zero_le _, rfl, by simp [lb1]⟩) ?_ ?_
    · exact Le.sub (by first | rfl | simp) (by simp only [AW7, simprocAttr, hX]; try simp <;> try (first | rfl | exact ⟨rfl, rfl⟩ | exact ⟨rfl, rfl, rfl⟩))
    rintro ⟨ys, i⟩ ⟨hi, hE, hN⟩ ih
    try simp only []
    simp only [] at hi hE hN
    have hyl : ys.length ≤ i := by
      have := wkT_len c w i
      have h4 := srt_len (wkT c w i)
      rw [← hE] at h4
      have e : (rw2 ys).length = ys.length := by simp [rw2]
      omega
    refine Run.nq ?_; refine Run.regionW hC (fun K hK => ?_); simp only [AW7, simprocAttr, hX]; (repeat (with_reducible refine And.intro ?_ ?_); exact vc0); refine hK _ ?_; clear hK K; refine Run.nq ?_
    refine Run.nq ?_; refine Run.condW (by simp only [AW7, simprocAttr, hX]; rfl) (by simp only [AW7, simprocAttr, hX]) ?_ ?_
    rotate_left
    · intro h
      have hie : i = c.length := by
        cases hx : decide ((i : Int) < c.length) with
        | true => rw [hx] at h; cases h
        | false => rw [decide_eq_false_iff_not] at hx; omega
      refine Run.exit rfl ?_; refine Run.nq ?_
      refine Run.nq ?_; refine Run.regionW hC (fun K hK => ?_); simp only [AW7, simprocAttr, hX]; (repeat (with_reducible refine And.intro ?_ ?_); exact vc0); refine hK _ ?_; clear hK K; refine Run.nq ?_
      refine Run.reK hpin [4] [0] (by decide) (by simp) ?_; simp only [AR, AW7, simprocAttr]
      refine Run.retW [4] (by decide) (by rw [hfn]; rfl) (by simp only [AW7, simprocAttr, hX]; rfl) (by simp only [AW7, simprocAttr, hX]) (hfin _ _ rfl rfl ?_)
      exact ⟨ys, 0, true, [], ⟨by rw [hz, ← hie]; exact hE, rfl, rfl⟩, hN, rfl, rfl, rfl⟩
    intro h
    have h : i < c.length := by
      cases hx : decide ((i : Int) < c.length) with
      | true => rw [decide_eq_true_eq] at hx; omega
      | false => rw [hx] at h; cases h
    have hlet : letters c.length (redL c w ++ [(i : Int)]) := letters_append.2 ⟨a1, letters_cons.2 ⟨by omega, letters_nil _⟩⟩
    refine Run.nq ?_; refine Run.regionW hC (fun K hK => ?_); simp only [AW7, simprocAttr, hX]; (repeat (with_reducible refine And.intro ?_ ?_); exact vc0)
    refine FunA.callW hP hT (c_spec_ConcatWords (redL c w) [(i : Int)] (by omega) (by simp)) (by simp only [AW7, simprocAttr]) ?_
    rintro rs o ⟨rfl, rfl⟩
    (try simp only [AW7, simprocAttr, hX]); (repeat (with_reducible refine And.intro ?_ ?_); exact vc0)
    refine FunA.callW hP hT (c_spec_l8Normal c (redL c w ++ [(i : Int)]) hc hlet (by simp; omega)) (by simp only [AW7, simprocAttr]) ?_
    rintro rs o ⟨rfl, rfl⟩
    (try simp only [AW7, simprocAttr, hX]); (repeat (with_reducible refine And.intro ?_ ?_); exact vc0)
    (repeat (with_reducible refine And.intro ?_ ?_); exact vc0); refine hK _ ?_; clear hK K; refine Run.nq ?_
    rw [cov_red hc h3 h2 i]
    refine Run.nq ?_; refine Run.regionW hC (fun K hK => ?_); simp only [AW7, simprocAttr, hX]; (repeat (with_reducible refine And.intro ?_ ?_); exact vc0); refine hK _ ?_; clear hK K; refine Run.nq ?_
    refine Run.nq ?_; refine Run.condW (by simp only [AW7, simprocAttr, hX]; rfl) (by simp only [AW7, simprocAttr, hX]) ?_ ?_
    · intro h5
      have h5 : (redL c w).length < (covL c w i).length ∧ (covL c w i).length ≤ 15 := by
        by_cases k1 : (redL c w).length < (covL c w i).length
        · rw [decide_eq_true (by omega : ((redL c w).length : Int) < ((covL c w i).length : Int))] at h5
          have h5 : decide (((covL c w i).length : Int) ≤ 15) = true := h5
          rw [decide_eq_true_eq] at h5
          exact ⟨k1, by omega⟩
        · rw [decide_eq_false (by omega : ¬ ((redL c w).length : Int) < ((covL c w i).length : Int))] at h5
          cases h5
      have hf : wkF c w i = some (covL c w i) := by unfold wkF; rw [if_pos h5]
      refine Run.reK hpin [0, 5, 6, 7, 8, 9] [0, 1, 4] (by decide) (by simp) ?_; simp only [AR, AW7, simprocAttr]
      refine Run.nq ?_; refine Run.regionW hC (fun K hK => ?_); simp only [AW7, simprocAttr, hX]; (repeat (with_reducible refine And.intro ?_ ?_); exact vc0)
      refine FunM.call hP hT (c_spec_l11Put ys (covL c w i) hN (by omega) (by omega) true) 0 0 (by simp only [AW7, simprocAttr]; rfl) (by simp) rfl (by simp only [AW7, simprocAttr]; try simp) ?_
      rintro rs o' obs' ⟨rfl, ys', hE2, hN2, h⟩
      obtain ⟨rfl, rfl⟩ := List.cons.inj h
      (try simp only [AW7, simprocAttr, hX]); (repeat (with_reducible refine And.intro ?_ ?_); exact vc0)
      (repeat (with_reducible refine And.intro ?_ ?_); exact vc0); refine hK _ ?_; clear hK K; refine Run.nq ?_
      have hE3 : rw2 ys' = srt (wkT c w (i + 1)) := by rw [hE2, hE, wkT_snoc, hf]; exact (srt_snoc _ _).symm
      refine Run.reK hpin [0, 5, 6, 7, 8] [3, 1] (by decide) (by simp) ?_; simp only [AR, AW7, simprocAttr]
      refine Run.nq ?_; refine Run.regionW hC (fun K hK => ?_); simp (disch := omega) only [wrap_id, AW7, simprocAttr, hX]; (repeat (with_reducible refine And.intro ?_ ?_); exact vc0); refine hK _ ?_; clear hK K; refine Run.nq ?_
      refine Run.le ?_ (ih ((ys', i + 1)) (⟨by omega, hE3, hN2⟩) (by (try simp only [List.length_append, List.length_cons, List.length_nil]); omega))
      exact Le.sub (by rfl) (by simp only [AW7, simprocAttr]; try simp)
    intro h5
    have h5 : ¬ ((redL c w).length < (covL c w i).length ∧ (covL c w i).length ≤ 15) := by
      rintro ⟨k1, k2⟩
      rw [decide_eq_true (by omega : ((redL c w).length : Int) < ((covL c w i).length : Int)), decide_eq_true (by omega : ((covL c w i).length : Int) ≤ 15)] at h5
      cases h5
    have hf : wkF c w i = none := by unfold wkF; rw [if_neg h5]
    have hE2 : rw2 ys = srt (wkT c w (i + 1)) := by rw [hE, wkT_snoc, hf]; simp
    refine Run.reK hpin [0, 5, 6, 7, 8] [0, 1] (by decide) (by simp) ?_; simp only [AR, AW7, simprocAttr]
    refine Run.nq ?_; refine Run.regionW hC (fun K hK => ?_); simp (disch := omega) only [wrap_id, AW7, simprocAttr, hX]; (repeat (with_reducible refine And.intro ?_ ?_); exact vc0); refine hK _ ?_; clear hK K; refine Run.nq ?_
    refine Run.le ?_ (ih ((ys, i + 1)) (⟨h, hE2, hN⟩) (by (try simp only [List.length_append, List.length_cons, List.length_nil]); omega))
    exact Le.sub (by rfl) (by simp only [AW7, simprocAttr]; try simp)

theorem c_spec_WeakCovers (c : List (List Int)) (w : List Int) (hcl : c.length ≤ 1048576) :
    FunA B 32 [.sl false (.row false) c, .sl false .int w] (fun rs o => rs = [.own 0 0] ∧ ∃ hs, hs.length = (wcv c w).length ∧ o = [.mat hs (wcv c w) 0 true]) :=
  (FunA.mat (by rfl) (post := fun rows nn rest => rows = wcv c w ∧ nn = true ∧ rest = []) (c_spec_WeakCoversR c w hcl)).mono fun rs o ⟨hs, rows, nn, rest, ⟨h1, h2, h3⟩, h4, h5, h6⟩ => by subst h1 h2 h3; exact ⟨h5, hs, h4, h6⟩
end Go.Proofs.Ytdhfonblpbpmmaa

/- The number of reduced words: the program's side. -/
import Derived.Test.YtnhiamdnghgboaaCnt
import Derived.Test.YtnhiamdnghgboaaNilM
set_option linter.unusedVariables false
set_option linter.unusedSimpArgs false
namespace Go.Proofs.Ytnhiamdnghgboaa
open Go Go.Aw Go.Cox

def desT (v : List Int) (n : Nat) : List Int := ((List.range n).filter fun k => decide (v.getD k 0 < 0)).map Int.ofNat
theorem desT_snoc (v : List Int) (n : Nat) : desT v (n + 1) = if v.getD n 0 < 0 then desT v n ++ [(n : Int)] else desT v n := by
  unfold desT
  rw [List.range_succ, List.filter_append, List.map_append]
  by_cases h : v.getD n 0 < 0
  · rw [if_pos h]; simp only [List.filter_cons, List.filter_nil, decide_eq_true h, if_true, List.map_cons, List.map_nil]; rfl
  · rw [if_neg h]; simp only [List.filter_cons, List.filter_nil, decide_eq_false h, List.map_nil, List.append_nil]; simp
theorem desT_len (v : List Int) (n : Nat) : (desT v n).length ≤ n := by
  unfold desT
  have := List.length_filter_le (fun k => decide (v.getD k 0 < 0)) (List.range n)
  simp at this ⊢
  exact this
theorem desT_full (v : List Int) : desT v v.length = desL v := rfl

theorem c_impl_descents (v : List Int) (hv : v.length ≤ 1048576) : FunA B 129 [.sl false .int v] (fun rs o => rs = [.own 0 0] ∧ o = [.arr .int (desL v) 0 true]) := by
  refine FunA.walk B_ok (fn := Try.f129) (fun vs w => Try.call129 vs w) Try.func129 rfl (by rw [Try.ntmps129]; simp) (fun C hC hP hT hΓ hbt hfn hpin hfin => ?_); have hX := BX; rw [← hΓ, ← hbt.1, ← hbt.2] at hX; rw [Try.ntmps129]; simp only [AW6, simprocAttr, hX]
  refine Run.nq ?_; refine Run.regionW hC (fun K hK => ?_); simp only [AW6, simprocAttr, hX]; (repeat (with_reducible refine And.intro ?_ ?_); exact vc0); refine hK _ ?_; clear hK K; refine Run.nq ?_
  refine Run.nq ?_; refine Run.regionW hC (fun K hK => ?_); simp only [AW6, simprocAttr, hX]; (repeat (with_reducible refine And.intro ?_ ?_); exact vc0); refine hK _ ?_; clear hK K; refine Run.nq ?_
  refine Run.nq ?_; refine Run.regionW hC (fun K hK => ?_); simp only [AW6, simprocAttr, hX]; (repeat (with_reducible refine And.intro ?_ ?_); exact vc0); refine hK _ ?_; clear hK K; refine Run.nq ?_
  refine Run.reK hpin [0, 3, 7, 8, 9] [0] (by decide) (by simp) ?_; simp only [AR, AW6, simprocAttr]
  refine Run.loopI (X := Nat) (fun k => ⟨22, [(0, true, .v (.sl false .int (v))), (3, true, .v (.own 0 0)), (7, true, .v (.sl false .int (v))), (8, true, .v (.int .i64 (v.length))), (9, true, .v (.int .i64 (k)))], [.arr .int ((desT v k)) 0 true]⟩) (fun k => k ≤ v.length) (fun k => v.length - k) (0) (Nat.zero_le _) ?_ ?_
  · exact Le.sub (by first | rfl | simp) (by simp only [AW6, simprocAttr, hX]; try simp <;> try (first | rfl | exact ⟨rfl, rfl⟩ | exact ⟨rfl, rfl, rfl⟩))
  rintro k hk ih
  try simp only []
  have hdl := desT_len v k
  refine Run.nq ?_; refine Run.regionW hC (fun K hK => ?_); simp only [AW6, simprocAttr, hX]; (repeat (with_reducible refine And.intro ?_ ?_); exact vc0); refine hK _ ?_; clear hK K; refine Run.nq ?_
  refine Run.nq ?_; refine Run.condW (by simp only [AW6, simprocAttr, hX]; rfl) (by simp only [AW6, simprocAttr, hX]) ?_ ?_
  rotate_left
  · intro h
    have h : k = v.length := by rw [decide_eq_false_iff_not] at h; omega
    subst h
    refine Run.exit rfl ?_; refine Run.nq ?_
    refine Run.nq ?_; refine Run.regionW hC (fun K hK => ?_); simp only [AW6, simprocAttr, hX]; (repeat (with_reducible refine And.intro ?_ ?_); exact vc0); refine hK _ ?_; clear hK K; refine Run.nq ?_
    refine Run.reK hpin [2] [0] (by decide) (by simp) ?_; simp only [AR, AW6, simprocAttr]
    refine Run.retW [2] (by decide) (by rw [hfn]; rfl) (by simp only [AW6, simprocAttr, hX]; rfl) (by simp only [AW6, simprocAttr, hX]) (hfin _ _ rfl rfl ?_)
    exact ⟨rfl, rfl⟩
  intro h
  have h : k < v.length := by rw [decide_eq_true_eq] at h; omega
  have hs := desT_snoc v k
  refine Run.nq ?_; refine Run.regionW hC (fun K hK => ?_); simp only [AW6, simprocAttr, hX]; (repeat (with_reducible refine And.intro ?_ ?_); exact vc0); refine hK _ ?_; clear hK K; refine Run.nq ?_
  refine Run.nq ?_; refine Run.regionW hC (fun K hK => ?_); simp only [AW6, simprocAttr, hX]; (repeat (with_reducible refine And.intro ?_ ?_); exact vc0); refine hK _ ?_; clear hK K; refine Run.nq ?_
  refine Run.nq ?_; refine Run.condW (by simp only [AW6, simprocAttr, hX]; rfl) (by simp only [AW6, simprocAttr, hX]) ?_ ?_
  · intro h2
    have h2 : v.getD k 0 < 0 := by simpa using h2
    rw [if_pos h2] at hs
    refine Run.nq ?_; refine Run.regionW hC (fun K hK => ?_); simp only [AW6, simprocAttr, hX]; (repeat (with_reducible refine And.intro ?_ ?_); exact vc0); refine hK _ ?_; clear hK K; refine Run.nq ?_
    rw [← hs]
    refine Run.reK hpin [0, 3, 7, 8, 9] [0] (by decide) (by simp) ?_; simp only [AR, AW6, simprocAttr]
    refine Run.nq ?_; refine Run.regionW hC (fun K hK => ?_); simp (disch := omega) only [wrap_id, AW6, simprocAttr, hX]; (repeat (with_reducible refine And.intro ?_ ?_); exact vc0); refine hK _ ?_; clear hK K; refine Run.nq ?_
    refine Run.le ?_ (ih (k + 1) (h) (by (try simp only [List.length_append, List.length_cons, List.length_nil]); omega))
    exact Le.sub (by rfl) (by simp only [AW6, simprocAttr]; try simp)
  intro h2
  have h2 : ¬ v.getD k 0 < 0 := by simpa using h2
  rw [if_neg h2] at hs
  rw [← hs]
  refine Run.reK hpin [0, 3, 7, 8, 9] [0] (by decide) (by simp) ?_; simp only [AR, AW6, simprocAttr]
  refine Run.nq ?_; refine Run.regionW hC (fun K hK => ?_); simp (disch := omega) only [wrap_id, AW6, simprocAttr, hX]; (repeat (with_reducible refine And.intro ?_ ?_); exact vc0); refine hK _ ?_; clear hK K; refine Run.nq ?_
  refine Run.le ?_ (ih (k + 1) (h) (by (try simp only [List.length_append, List.length_cons, List.length_nil]); omega))
  exact Le.sub (by rfl) (by simp only [AW6, simprocAttr]; try simp)

/-- How many words the letters ahead of a place make up. -/
def nS (c : List (List Int)) (f : Nat) (v : List Int) (k : Nat) : Nat := (((desL v).take k).map fun i => nW c f (reflL c i v)).sum
theorem nS_succ (c : List (List Int)) (f : Nat) (v : List Int) (k : Nat) (h : k < (desL v).length) : nS c f v (k + 1) = nS c f v k + nW c f (reflL c ((desL v).getD k 0) v) := by
  unfold nS
  rw [← take_snoc 0 (desL v) k h]
  simp
theorem nS_full (c : List (List Int)) (f : Nat) (v : List Int) : nS c f v (desL v).length = ((desL v).map fun i => nW c f (reflL c i v)).sum := by simp [nS]
theorem nS_mono (c : List (List Int)) (f : Nat) (v : List Int) : ∀ {k : Nat}, k ≤ (desL v).length → nS c f v k ≤ nS c f v (desL v).length := by
  intro k hk
  obtain ⟨d, hd⟩ : ∃ d, (desL v).length = k + d := ⟨(desL v).length - k, by omega⟩
  have : ∀ d, k + d ≤ (desL v).length → nS c f v k ≤ nS c f v (k + d) := by
    intro d
    induction d with
    | zero => intro _; exact Nat.le_refl _
    | succ d ih =>
      intro h
      have := nS_succ c f v (k + d) (by omega)
      have := ih (by omega)
      rw [show k + (d + 1) = k + d + 1 by omega]
      omega
  have := this d (by omega)
  rw [← hd] at this
  exact this

theorem c_CloneF (w : List Int) (hl : w.length ≤ 1048576) : FunA B 91 [.sl false .int w] (fun rs o => rs = [.sl true .int w] ∧ o = []) := FunA.frozenE rfl (c_slices_Clone w hl)

theorem c_impl_spelled (c : List (List Int)) (hc : CartanP c) : ∀ (L : Nat) (v head : List Int) (ys : List (List Int)) (nn : Bool), L ≤ 31 → Far c L v → head.length + L ≤ 100 → ys.length ≤ 120 →
    FunM B 101 [.sl false (.row false) c, .sl false .int v, .sl false .int head, .own 0 0, .int .i64 120] (.row true) ys nn (fun rs o => ∃ (ys' : List (List Int)) (n2 : Bool), ys'.length = min (ys.length + nW c L v) 121 ∧ rs = [.own 1 0] ∧ o = [.dead, .arr (.row true) ys' 0 n2]) := by
  have hn := hc.2.1
  intro L
  induction L with
  | zero =>
    intro v head ys nn hL hf hh hy
    have hd := (des_far hc hf).2 rfl
    have hvl := hf.1
    refine FunM.walk B_ok (fn := Try.f101) (fun vs w => Try.call101 vs w) Try.func101 rfl (by rw [Try.ntmps101]; simp) (fun C hC hP hT hΓ hbt hfn hpin hfin => ?_); have hX := BX; rw [← hΓ, ← hbt.1, ← hbt.2] at hX; rw [Try.ntmps101]; simp only [AW6, simprocAttr, hX]
    refine Run.nq ?_; refine Run.regionW hC (fun K hK => ?_); simp only [AW6, simprocAttr, hX]; (repeat (with_reducible refine And.intro ?_ ?_); exact vc0); refine hK _ ?_; clear hK K; refine Run.nq ?_
    refine Run.nq ?_; refine Run.regionW hC (fun K hK => ?_); simp only [AW6, simprocAttr, hX]; (repeat (with_reducible refine And.intro ?_ ?_); exact vc0)
    refine FunA.callW hP hT (c_impl_descents v (by omega)) (by simp only [AW6, simprocAttr]) ?_
    rintro rs o ⟨rfl, rfl⟩
    (try simp only [AW6, simprocAttr, hX]); (repeat (with_reducible refine And.intro ?_ ?_); exact vc0)
    (repeat (with_reducible refine And.intro ?_ ?_); exact vc0); refine hK _ ?_; clear hK K; refine Run.nq ?_
    rw [hd]
    refine Run.nq ?_; refine Run.regionW hC (fun K hK => ?_); simp only [AW6, simprocAttr, hX]; (repeat (with_reducible refine And.intro ?_ ?_); exact vc0); refine hK _ ?_; clear hK K; refine Run.nq ?_
    refine Run.nq ?_; refine Run.condW (by simp only [AW6, simprocAttr, hX]; rfl) (by simp only [AW6, simprocAttr, hX]) ?_ ?_
    rotate_left
    · intro h; simp at h
    intro _
    refine Run.reKP hpin [0, 1, 2, 3, 4] [0] rfl (by simp [oAt, gen0]) (by decide) (by simp) ?_; simp only [AR, AW6, simprocAttr]
    refine Run.mv0 [0, 1, 2, 3, 4] ?_
    simp only [AMV, frV_cons, frV_nil, AW6, simprocAttr]
    refine Run.nq ?_; refine Run.regionW hC (fun K hK => ?_); simp only [AW6, simprocAttr, hX]; (repeat (with_reducible refine And.intro ?_ ?_); exact vc0)
    refine FunA.callW hP hT (c_CloneF head (by omega)) (by simp only [AW6, simprocAttr]) ?_
    rintro rs o ⟨rfl, rfl⟩
    (try simp only [AW6, simprocAttr, hX]); (repeat (with_reducible refine And.intro ?_ ?_); exact vc0)
    (repeat (with_reducible refine And.intro ?_ ?_); exact vc0); refine hK _ ?_; clear hK K; refine Run.nq ?_
    refine Run.reKP hpin [10] [0, 1] rfl (by simp [oAt, gen0]) (by decide) (by simp) ?_; simp only [AR, AW6, simprocAttr]
    refine Run.retW [10] (by decide) (by rw [hfn]; rfl) (by simp only [AW6, simprocAttr, hX]; rfl) (by simp only [AW6, simprocAttr, hX]) (hfin _ _ _ rfl rfl rfl ?_)
    exact ⟨_, _, by simp [nW]; omega, rfl, rfl⟩
  | succ L IH =>
    intro v head ys nn hL hf hh hy
    have hd : desL v ≠ [] := fun e => by have := (des_far hc hf).1 e; omega
    have hvl := hf.1
    have hW : nW c (L + 1) v = nS c L v (desL v).length := by rw [nS_full]; simp only [nW, if_neg hd]
    have hdl := desT_len v v.length
    rw [desT_full] at hdl
    refine FunM.walk B_ok (fn := Try.f101) (fun vs w => Try.call101 vs w) Try.func101 rfl (by rw [Try.ntmps101]; simp) (fun C hC hP hT hΓ hbt hfn hpin hfin => ?_); have hX := BX; rw [← hΓ, ← hbt.1, ← hbt.2] at hX; rw [Try.ntmps101]; simp only [AW6, simprocAttr, hX]
    refine Run.nq ?_; refine Run.regionW hC (fun K hK => ?_); simp only [AW6, simprocAttr, hX]; (repeat (with_reducible refine And.intro ?_ ?_); exact vc0); refine hK _ ?_; clear hK K; refine Run.nq ?_
    refine Run.nq ?_; refine Run.regionW hC (fun K hK => ?_); simp only [AW6, simprocAttr, hX]; (repeat (with_reducible refine And.intro ?_ ?_); exact vc0)
    refine FunA.callW hP hT (c_impl_descents v (by omega)) (by simp only [AW6, simprocAttr]) ?_
    rintro rs o ⟨rfl, rfl⟩
    (try simp only [AW6, simprocAttr, hX]); (repeat (with_reducible refine And.intro ?_ ?_); exact vc0)
    (repeat (with_reducible refine And.intro ?_ ?_); exact vc0); refine hK _ ?_; clear hK K; refine Run.nq ?_
    have hd0 : 0 < (desL v).length := List.length_pos_iff.2 hd
    refine Run.nq ?_; refine Run.regionW hC (fun K hK => ?_); simp only [AW6, simprocAttr, hX]; (repeat (with_reducible refine And.intro ?_ ?_); exact vc0); refine hK _ ?_; clear hK K; refine Run.nq ?_
    refine Run.nq ?_; refine Run.condW (by simp only [AW6, simprocAttr, hX]; rfl) (by simp only [AW6, simprocAttr, hX]) ?_ ?_
    · intro h
      have h : ((desL v).length : Int) = 0 := by simpa using h
      omega
    intro _
    refine Run.nq ?_; refine Run.regionW hC (fun K hK => ?_); simp only [AW6, simprocAttr, hX]; (repeat (with_reducible refine And.intro ?_ ?_); exact vc0); refine hK _ ?_; clear hK K; refine Run.nq ?_
    generalize hgd : desL v = ds at *
    have hdm : ∀ j, j < ds.length → 0 ≤ ds.getD j 0 ∧ (ds.getD j 0).toNat < v.length ∧ v.getD (ds.getD j 0).toNat 0 < 0 := fun j hj => by
      have := getD_mem hj
      rw [← hgd] at this
      exact hgd ▸ des_mem.1 this
    refine Run.letgoK 1 [0, 1, 2, 3, 4, 25, 26, 27] rfl ?_; simp only [AL, frV_cons, frV_nil, AW6, simprocAttr]
    refine Run.reKP hpin [0, 1, 2, 3, 4, 25, 26, 27] [0] rfl (by simp [oAt, gen0]) (by decide) (by simp) ?_; simp only [AR, AW6, simprocAttr]
    refine Run.mv0 [0, 1, 2, 3, 4, 25, 26, 27] ?_
    simp only [AMV, frV_cons, frV_nil, AW6, simprocAttr]
    refine Run.loopI (X := List (List Int) × Bool × Nat) (fun s => ⟨54, [(0, true, .v (.sl false (.row false) (c))), (1, true, .v (.sl false .int (v))), (2, true, .v (.sl false .int (head))), (3, true, .v (.own 1 0)), (4, true, .v (.int .i64 (120))), (25, true, .v (.sl true .int (ds))), (26, true, .v (.int .i64 (ds.length))), (27, true, .v (.int .i64 (s.2.2)))], [.dead, .arr (.row true) s.1 0 s.2.1]⟩) (fun s => s.2.2 ≤ ds.length ∧ s.1.length = min (ys.length + nS c L v s.2.2) 121) (fun s => ds.length - s.2.2) ((ys, nn, 0)) (⟨Nat.zero_le _, by simp [nS]; omega⟩) ?_ ?_
    · exact Le.sub (by first | rfl | simp) (by simp only [AW6, simprocAttr, hX]; try simp <;> try (first | rfl | exact ⟨rfl, rfl⟩ | exact ⟨rfl, rfl, rfl⟩))
    rintro ⟨zs, n3, k⟩ ⟨hk, hz⟩ ih
    try simp only []
    simp only [] at hk hz
    have hmono := nS_mono c L v (k := k) (by rw [hgd]; exact hk)
    rw [hgd] at hmono
    refine Run.nq ?_; refine Run.regionW hC (fun K hK => ?_); simp only [AW6, simprocAttr, hX]; (repeat (with_reducible refine And.intro ?_ ?_); exact vc0); refine hK _ ?_; clear hK K; refine Run.nq ?_
    refine Run.nq ?_; refine Run.condW (by simp only [AW6, simprocAttr, hX]; rfl) (by simp only [AW6, simprocAttr, hX]) ?_ ?_
    rotate_left
    · intro h
      have h : k = ds.length := by rw [decide_eq_false_iff_not] at h; omega
      refine Run.exit rfl ?_; refine Run.nq ?_
      refine Run.nq ?_; refine Run.regionW hC (fun K hK => ?_); simp only [AW6, simprocAttr, hX]; (repeat (with_reducible refine And.intro ?_ ?_); exact vc0); refine hK _ ?_; clear hK K; refine Run.nq ?_
      refine Run.reKP hpin [10] [0, 1] rfl (by simp [oAt, gen0]) (by decide) (by simp) ?_; simp only [AR, AW6, simprocAttr]
      refine Run.retW [10] (by decide) (by rw [hfn]; rfl) (by simp only [AW6, simprocAttr, hX]; rfl) (by simp only [AW6, simprocAttr, hX]) (hfin _ _ _ rfl rfl rfl ?_)
      exact ⟨zs, _, by rw [hW, hz, h], rfl, rfl⟩
    intro h
    have h : k < ds.length := by rw [decide_eq_true_eq] at h; omega
    obtain ⟨d1, d2, d3⟩ := hdm k h
    have hsS := nS_succ c L v k (by rw [hgd]; exact h)
    rw [hgd] at hsS
    refine Run.nq ?_; refine Run.regionW hC (fun K hK => ?_); simp only [AW6, simprocAttr, hX]; (repeat (with_reducible refine And.intro ?_ ?_); exact vc0); refine hK _ ?_; clear hK K; refine Run.nq ?_
    refine Run.nq ?_; refine Run.regionW hC (fun K hK => ?_); simp only [AW6, simprocAttr, hX]; (repeat (with_reducible refine And.intro ?_ ?_); exact vc0); refine hK _ ?_; clear hK K; refine Run.nq ?_
    refine Run.nq ?_; refine Run.condW (by simp only [AW6, simprocAttr, hX]; rfl) (by simp only [AW6, simprocAttr, hX]) ?_ ?_
    · intro h2
      have h2 : 120 < zs.length := by rw [decide_eq_true_eq] at h2; omega
      refine Run.exit rfl ?_; refine Run.nq ?_
      refine Run.nq ?_; refine Run.regionW hC (fun K hK => ?_); simp only [AW6, simprocAttr, hX]; (repeat (with_reducible refine And.intro ?_ ?_); exact vc0); refine hK _ ?_; clear hK K; refine Run.nq ?_
      refine Run.reKP hpin [10] [0, 1] rfl (by simp [oAt, gen0]) (by decide) (by simp) ?_; simp only [AR, AW6, simprocAttr]
      refine Run.retW [10] (by decide) (by rw [hfn]; rfl) (by simp only [AW6, simprocAttr, hX]; rfl) (by simp only [AW6, simprocAttr, hX]) (hfin _ _ _ rfl rfl rfl ?_)
      exact ⟨zs, _, by rw [hW, hz]; omega, rfl, rfl⟩
    intro h2
    have h2 : zs.length ≤ 120 := by rw [decide_eq_false_iff_not] at h2; omega
    generalize hgi : ds.getD k 0 = i at *
    obtain ⟨M, m1, m2⟩ := hf.down hc (i := i) ⟨d1, by omega⟩ d3
    have hML : M = L := by omega
    subst hML
    have hBd := far_bd hc m2 (by omega)
    refine Run.nq ?_; refine Run.regionW hC (fun K hK => ?_); simp only [AW6, simprocAttr, hX]; (repeat (with_reducible refine And.intro ?_ ?_); exact vc0); refine hK _ ?_; clear hK K; refine Run.nq ?_
    refine Run.nq ?_; refine Run.regionW hC (fun K hK => ?_); simp only [AW6, simprocAttr, hX]; (repeat (with_reducible refine And.intro ?_ ?_); exact vc0)
    refine FunM.call hP hT (c_impl_reflected c i v hc hvl ⟨d1, by omega⟩ hBd) 2 1 (by simp only [AW6, simprocAttr]; rfl) (by simp) rfl (by simp only [AW6, simprocAttr]; try simp) ?_
    rintro rs o o2 ⟨rfl, h9⟩
    obtain ⟨rfl, rfl⟩ := List.cons.inj h9
    (try simp only [AW6, simprocAttr, hX]); (repeat (with_reducible refine And.intro ?_ ?_); exact vc0)
    (repeat (with_reducible refine And.intro ?_ ?_); exact vc0); refine hK _ ?_; clear hK K; refine Run.nq ?_
    refine Run.nq ?_; refine Run.regionW hC (fun K hK => ?_); simp only [AW6, simprocAttr, hX]; (repeat (with_reducible refine And.intro ?_ ?_); exact vc0)
    refine FunA.callW hP hT (c_slices_Clone head (by omega)) (by simp only [AW6, simprocAttr]) ?_
    rintro rs o ⟨n4, rfl, rfl⟩
    (try simp only [AW6, simprocAttr, hX]); (repeat (with_reducible refine And.intro ?_ ?_); exact vc0)
    refine FunM.call hP hT (IH (reflL c i v) (head ++ [i]) zs n3 (by omega) m2 (by simp; omega) h2) 1 0 (by simp only [AW6, simprocAttr]; rfl) (by simp) rfl (by simp only [AW6, simprocAttr]; try simp) ?_
    rintro rs o o2 ⟨ws, n5, hws, rfl, h9⟩
    obtain ⟨rfl, rfl⟩ := List.cons.inj h9
    (try simp only [AW6, simprocAttr, hX]); (repeat (with_reducible refine And.intro ?_ ?_); exact vc0)
    (repeat (with_reducible refine And.intro ?_ ?_); exact vc0); refine hK _ ?_; clear hK K; refine Run.nq ?_
    refine Run.reKP hpin [0, 1, 2, 3, 4, 25, 26, 27] [0, 5] rfl (by simp [oAt, gen0]) (by decide) (by simp) ?_; simp only [AR, AW6, simprocAttr]
    refine Run.nq ?_; refine Run.regionW hC (fun K hK => ?_); simp (disch := omega) only [wrap_id, AW6, simprocAttr, hX]; (repeat (with_reducible refine And.intro ?_ ?_); exact vc0); refine hK _ ?_; clear hK K; refine Run.nq ?_
    refine Run.le ?_ (ih ((ws, n5, k + 1)) (⟨h, by rw [hws, hz, hsS]; omega⟩) (by (try simp only [List.length_append, List.length_cons, List.length_nil]); omega))
    exact Le.sub (by rfl) (by simp only [AW6, simprocAttr]; try simp)
end Go.Proofs.Ytnhiamdnghgboaa

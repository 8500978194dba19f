/- The number of reduced words: the program's side, to the end. -/
import Derived.Test.YtnhiamdnghgboaaCnt2
set_option linter.unusedVariables false
set_option linter.unusedSimpArgs false
namespace Go.Proofs.Ytnhiamdnghgboaa
open Go Go.Aw Go.Cox

theorem c_impl_spelled0 (c : List (List Int)) (hc : CartanP c) (L : Nat) (v head : List Int) (hL : L ≤ 31) (hf : Far c L v) (hh : head.length + L ≤ 100) :
    FunA B 101 [.sl false (.row false) c, .sl false .int v, .sl false .int head, .nils, .int .i64 120] (fun rs o => ∃ (ys' : List (List Int)) (n2 : Bool), ys'.length = min (nW c L v) 121 ∧ rs = [.own 1 0] ∧ o = [.dead, .arr (.row true) ys' 0 n2]) :=
  (FunM.nil (c_impl_spelled c hc L v head [] false hL hf hh (by simp)) (by rfl) (by rintro rs o ⟨ys', n2, _, _, rfl⟩; rfl)).mono fun rs o ⟨ys', n2, h1, h2, h3⟩ => ⟨ys', n2, by simpa using h1, h2, h3⟩

def cnN (c : List (List Int)) (w : List Int) : Nat := nW c (redL c w).length (imageL c w)
noncomputable def cnB (c : List (List Int)) (w : List Int) : Bool := wordB c w && decide (cnN c w ≤ 120)
noncomputable def cnZ (c : List (List Int)) (w : List Int) : Int := if cnB c w then (cnN c w : Int) else -1

theorem c_impl_ReducedWords (c : List (List Int)) (w : List Int) :
    FunA B 44 [.sl false (.row false) c, .sl false .int w] (fun rs o => (cnB c w = false ∧ rs = [.own 0 0, .bool false] ∧ o = [.arr .lrow [] 0 true]) ∨ (cnB c w = true ∧ ∃ (ys : List (List Int)) (nn : Bool), ys.length = cnN c w ∧ rs = [.own 0 0, .bool true] ∧ o = [.arr (.row true) ys 0 nn])) := by
  refine FunA.walk B_ok (fn := Try.f44) (fun vs w => Try.call44 vs w) Try.func44 rfl (by rw [Try.ntmps44]; simp) (fun C hC hP hT hΓ hbt hfn hpin hfin => ?_); have hX := BX; rw [← hΓ, ← hbt.1, ← hbt.2] at hX; rw [Try.ntmps44]; simp only [AW6, simprocAttr, hX]
  refine Run.nq ?_; refine Run.regionW hC (fun K hK => ?_); simp only [AW6, simprocAttr, hX]; (repeat (with_reducible refine And.intro ?_ ?_); exact vc0); refine hK _ ?_; clear hK K; refine Run.nq ?_
  refine Run.nq ?_; refine Run.regionW hC (fun K hK => ?_); simp only [AW6, simprocAttr, hX]; (repeat (with_reducible refine And.intro ?_ ?_); exact vc0)
  refine FunA.callW hP hT (c_impl_IsWord c w) (by simp only [AW6, simprocAttr]) ?_
  rintro rs o ⟨rfl, rfl⟩
  (try simp only [AW6, simprocAttr, hX]); (repeat (with_reducible refine And.intro ?_ ?_); exact vc0)
  (repeat (with_reducible refine And.intro ?_ ?_); exact vc0); refine hK _ ?_; clear hK K; refine Run.nq ?_
  refine Run.nq ?_; refine Run.condW (by simp only [AW6, simprocAttr, hX]; rfl) (by simp only [AW6, simprocAttr, hX]) ?_ ?_
  · intro h
    have h : wordB c w = false := by simpa using h
    refine Run.nq ?_; refine Run.regionW hC (fun K hK => ?_); simp only [AW6, simprocAttr, hX]; (repeat (with_reducible refine And.intro ?_ ?_); exact vc0); refine hK _ ?_; clear hK K; refine Run.nq ?_
    refine Run.reK hpin [4, 5] [0] (by decide) (by simp) ?_; simp only [AR, AW6, simprocAttr]
    refine Run.retW [4, 5] (by decide) (by rw [hfn]; rfl) (by simp only [AW6, simprocAttr, hX]; rfl) (by simp only [AW6, simprocAttr, hX]) (hfin _ _ rfl rfl ?_)
    exact .inl ⟨by simp [cnB, h], rfl, rfl⟩
  intro h
  have hwb : wordB c w = true := by simpa using h
  obtain ⟨hc, h2, h3⟩ := wordB_iff.1 hwb
  have hn := hc.2.1
  obtain ⟨a1, a2, a3, a4, a5⟩ := red_spec hc h3 (by omega)
  refine Run.nq ?_; refine Run.regionW hC (fun K hK => ?_); simp only [AW6, simprocAttr, hX]; (repeat (with_reducible refine And.intro ?_ ?_); exact vc0)
  refine FunA.callW hP hT (c_impl_image c w hc h3 (by omega)) (by simp only [AW6, simprocAttr]) ?_
  rintro rs o ⟨rfl, rfl⟩
  (try simp only [AW6, simprocAttr, hX]); (repeat (with_reducible refine And.intro ?_ ?_); exact vc0)
  refine FunA.callW hP hT (c_impl_spelled0 c hc (redL c w).length (imageL c w) [] (by omega) a5 (by simp; omega)) (by simp only [AW6, simprocAttr]) ?_
  rintro rs o ⟨ys, n2, hys, rfl, rfl⟩
  (try simp only [AW6, simprocAttr, hX]); (repeat (with_reducible refine And.intro ?_ ?_); exact vc0)
  (repeat (with_reducible refine And.intro ?_ ?_); exact vc0); refine hK _ ?_; clear hK K; refine Run.nq ?_
  refine Run.nq ?_; refine Run.regionW hC (fun K hK => ?_); simp only [AW6, simprocAttr, hX]; (repeat (with_reducible refine And.intro ?_ ?_); exact vc0); refine hK _ ?_; clear hK K; refine Run.nq ?_
  refine Run.nq ?_; refine Run.condW (by simp only [AW6, simprocAttr, hX]; rfl) (by simp only [AW6, simprocAttr, hX]) ?_ ?_
  · intro h4
    have h4 : 120 < ys.length := by rw [decide_eq_true_eq] at h4; omega
    refine Run.nq ?_; refine Run.regionW hC (fun K hK => ?_); simp only [AW6, simprocAttr, hX]; (repeat (with_reducible refine And.intro ?_ ?_); exact vc0); refine hK _ ?_; clear hK K; refine Run.nq ?_
    refine Run.reK hpin [4, 5] [4] (by decide) (by simp) ?_; simp only [AR, AW6, simprocAttr]
    refine Run.retW [4, 5] (by decide) (by rw [hfn]; rfl) (by simp only [AW6, simprocAttr, hX]; rfl) (by simp only [AW6, simprocAttr, hX]) (hfin _ _ rfl rfl ?_)
    refine .inl ⟨?_, rfl, rfl⟩
    have : ¬ cnN c w ≤ 120 := by unfold cnN; omega
    simp [cnB, this]
  intro h4
  have h4 : ys.length ≤ 120 := by rw [decide_eq_false_iff_not] at h4; omega
  refine Run.nq ?_; refine Run.regionW hC (fun K hK => ?_); simp only [AW6, simprocAttr, hX]; (repeat (with_reducible refine And.intro ?_ ?_); exact vc0); refine hK _ ?_; clear hK K; refine Run.nq ?_
  refine Run.reK hpin [4, 5] [3] (by decide) (by simp) ?_; simp only [AR, AW6, simprocAttr]
  refine Run.retW [4, 5] (by decide) (by rw [hfn]; rfl) (by simp only [AW6, simprocAttr, hX]; rfl) (by simp only [AW6, simprocAttr, hX]) (hfin _ _ rfl rfl ?_)
  have h5 : cnN c w ≤ 120 := by unfold cnN; omega
  exact .inr ⟨by simp [cnB, hwb, h5], ys, n2, by rw [hys]; unfold cnN at h5 ⊢; omega, rfl, rfl⟩

theorem c_impl_CountChains (c : List (List Int)) (w : List Int) (hcl : c.length ≤ 1048576) :
    FunA B 17 [.sl false (.row false) c, .sl false .int w] (fun rs o => rs = [.int .i64 (cnZ c w)] ∧ o = []) := by
  refine FunA.walk B_ok (fn := Try.f17) (fun vs w => Try.call17 vs w) Try.func17 rfl (by rw [Try.ntmps17]; simp) (fun C hC hP hT hΓ hbt hfn hpin hfin => ?_); have hX := BX; rw [← hΓ, ← hbt.1, ← hbt.2] at hX; rw [Try.ntmps17]; simp only [AW6, simprocAttr, hX]
  refine Run.nq ?_; refine Run.regionW hC (fun K hK => ?_); simp only [AW6, simprocAttr, hX]; (repeat (with_reducible refine And.intro ?_ ?_); exact vc0); refine hK _ ?_; clear hK K; refine Run.nq ?_
  refine Run.nq ?_; refine Run.regionW hC (fun K hK => ?_); simp only [AW6, simprocAttr, hX]; (repeat (with_reducible refine And.intro ?_ ?_); exact vc0)
  refine FunA.callW hP hT (c_impl_ReducedWords c w) (by simp only [AW6, simprocAttr]) ?_
  rintro rs o (⟨hb, rfl, rfl⟩ | ⟨hb, ys, nn, hys, rfl, rfl⟩)
  · (try simp only [AW6, simprocAttr, hX]); (repeat (with_reducible refine And.intro ?_ ?_); exact vc0)
    (repeat (with_reducible refine And.intro ?_ ?_); exact vc0); refine hK _ ?_; clear hK K; refine Run.nq ?_
    refine Run.nq ?_; refine Run.regionW hC (fun K hK => ?_); simp only [AW6, simprocAttr, hX]; (repeat (with_reducible refine And.intro ?_ ?_); exact vc0); refine hK _ ?_; clear hK K; refine Run.nq ?_
    refine Run.nq ?_; refine Run.condW (by simp only [AW6, simprocAttr, hX]; rfl) (by simp only [AW6, simprocAttr, hX]) ?_ ?_
    rotate_left
    · intro h; simp at h
    intro _
    refine Run.nq ?_; refine Run.regionW hC (fun K hK => ?_); simp only [AW6, simprocAttr, hX]; (repeat (with_reducible refine And.intro ?_ ?_); exact vc0); refine hK _ ?_; clear hK K; refine Run.nq ?_
    refine Run.reK hpin [4] [] (by decide) (by simp) ?_; simp only [AR, AW6, simprocAttr]
    refine Run.retW [4] (by decide) (by rw [hfn]; rfl) (by simp only [AW6, simprocAttr, hX]; rfl) (by simp only [AW6, simprocAttr, hX]) (hfin _ _ rfl rfl ?_)
    simp [cnZ, hb]
  · (try simp only [AW6, simprocAttr, hX]); (repeat (with_reducible refine And.intro ?_ ?_); exact vc0)
    (repeat (with_reducible refine And.intro ?_ ?_); exact vc0); refine hK _ ?_; clear hK K; refine Run.nq ?_
    refine Run.nq ?_; refine Run.regionW hC (fun K hK => ?_); simp only [AW6, simprocAttr, hX]; (repeat (with_reducible refine And.intro ?_ ?_); exact vc0); refine hK _ ?_; clear hK K; refine Run.nq ?_
    refine Run.nq ?_; refine Run.condW (by simp only [AW6, simprocAttr, hX]; rfl) (by simp only [AW6, simprocAttr, hX]) ?_ ?_
    · intro h; simp at h
    intro _
    refine Run.nq ?_; refine Run.regionW hC (fun K hK => ?_); simp only [AW6, simprocAttr, hX]; (repeat (with_reducible refine And.intro ?_ ?_); exact vc0); refine hK _ ?_; clear hK K; refine Run.nq ?_
    refine Run.reK hpin [4] [] (by decide) (by simp) ?_; simp only [AR, AW6, simprocAttr]
    refine Run.retW [4] (by decide) (by rw [hfn]; rfl) (by simp only [AW6, simprocAttr, hX]; rfl) (by simp only [AW6, simprocAttr, hX]) (hfin _ _ rfl rfl ?_)
    simp [cnZ, hb, hys]
end Go.Proofs.Ytnhiamdnghgboaa

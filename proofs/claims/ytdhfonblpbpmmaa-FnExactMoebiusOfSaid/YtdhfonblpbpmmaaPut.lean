/- A word put into an ordered list. -/
import Derived.Test.YtdhfonblpbpmmaaCmp
set_option linter.unusedVariables false
set_option linter.unusedSimpArgs false
namespace Go.Proofs.Ytdhfonblpbpmmaa
open Go Go.Aw

def putS (w : List Int) : Bool → List (List Int) → List (List Int)
  | b, [] => if b then [] else [w]
  | b, x :: l => if cmpW w x < 0 ∧ b = false then w :: x :: putS w true l else x :: putS w (b || cmpW w x == 0) l
def rw2 (ys : List (Nat × List Int)) : List (List Int) := ys.map (·.2)
def lb1 (ys : List (Nat × List Int)) : List Nat := ys.map (·.1)
theorem rw2_app (a b : List (Nat × List Int)) : rw2 (a ++ b) = rw2 a ++ rw2 b := by simp [rw2]
theorem lb1_app (a b : List (Nat × List Int)) : lb1 (a ++ b) = lb1 a ++ lb1 b := by simp [lb1]
theorem drop_cons' (ys : List (Nat × List Int)) {i : Nat} (h : i < ys.length) : ys.drop i = ys.getD i (0, []) :: ys.drop (i + 1) := by
  rw [List.drop_eq_getElem_cons h, getD_eq h]
theorem lb_step {zs ys : List (Nat × List Int)} {i : Nat} (h : i < ys.length) (hn : (lb1 zs ++ lb1 (ys.drop i)).Nodup) : (lb1 (zs ++ [((ys.getD i (0, [])).1, (ys.getD i (0, [])).2)]) ++ lb1 (ys.drop (i + 1))).Nodup := by
  rw [drop_cons' ys h] at hn
  have e : lb1 (ys.getD i (0, []) :: ys.drop (i + 1)) = [(ys.getD i (0, [])).1] ++ lb1 (ys.drop (i + 1)) := rfl
  rw [e, ← List.append_assoc] at hn
  rw [lb1_app]
  exact hn
theorem lb_ins {zs ys : List (Nat × List Int)} {i q : Nat} {w : List Int} (hn : (lb1 zs ++ lb1 (ys.drop i)).Nodup) (h1 : ∀ p ∈ zs, p.1 ≠ q) (h2 : ∀ p ∈ ys, p.1 ≠ q) : (lb1 (zs ++ [(q, w)]) ++ lb1 (ys.drop i)).Nodup := by
  rw [lb1_app, List.append_assoc]
  rw [List.nodup_append] at hn ⊢
  obtain ⟨n1, n2, n3⟩ := hn
  refine ⟨n1, ?_, fun a ha b hb => ?_⟩
  · show (q :: lb1 (ys.drop i)).Nodup
    rw [List.nodup_cons]
    refine ⟨fun hm => ?_, n2⟩
    obtain ⟨p, hp, e⟩ := List.mem_map.1 hm
    exact h2 p (List.mem_of_mem_drop hp) e
  · rcases List.mem_append.1 hb with hb | hb
    · simp [lb1] at hb
      obtain ⟨p, hp, rfl⟩ := List.mem_map.1 ha
      rw [hb]; exact h1 p hp
    · exact n3 a ha b hb

set_option maxHeartbeats 1000000 in
theorem c_spec_l11Put (ys : List (Nat × List Int)) (w : List Int) (hnd : (lb1 ys).Nodup) (hyl : ys.length ≤ 100000) (hw : w.length ≤ 1048576) (nn : Bool) :
    FunM B 35 [.own 0 0, .sl false .int w] .lrow ys nn (fun rs o => rs = [.own 1 0] ∧ ∃ ys', rw2 ys' = putS w false (rw2 ys) ∧ (lb1 ys').Nodup ∧ o = [.arr .lrow ys 0 nn, .arr .lrow ys' 0 true]) := by
  refine FunM.walk B_ok (fn := Try.f35) (fun vs w => Try.call35 vs w) Try.func35 rfl (by rw [Try.ntmps35]; simp) (fun C hC hP hT hΓ hbt hfn hpin hfin => ?_); have hX := BX; rw [← hΓ, ← hbt.1, ← hbt.2] at hX; rw [Try.ntmps35]; simp only [AW7, simprocAttr, hX]
  refine Run.nq ?_; refine Run.regionW hC (fun K hK => ?_); simp only [AW7, simprocAttr, hX]; (repeat (with_reducible refine And.intro ?_ ?_); exact vc0); refine hK _ ?_; clear hK K; refine Run.nq ?_
  refine Run.nq ?_; refine Run.regionW hC (fun K hK => ?_); simp only [AW7, simprocAttr, hX]; (repeat (with_reducible refine And.intro ?_ ?_); exact vc0); refine hK _ ?_; clear hK K; refine Run.nq ?_
  refine Run.nq ?_; refine Run.regionW hC (fun K hK => ?_); simp only [AW7, simprocAttr, hX]; (repeat (with_reducible refine And.intro ?_ ?_); exact vc0); refine hK _ ?_; clear hK K; refine Run.nq ?_
  refine Run.nq ?_; refine Run.regionW hC (fun K hK => ?_); simp only [AW7, simprocAttr, hX]; (repeat (with_reducible refine And.intro ?_ ?_); exact vc0); refine hK _ ?_; clear hK K; refine Run.nq ?_
  refine Run.reKP hpin [0, 1, 5, 6, 7] [0, 1] rfl (by simp [oAt, gen0]) (by decide) (by simp) ?_; simp only [AR, AW7, simprocAttr]
  refine Run.loopI (X := List (Nat × List Int) × Bool × Nat) (fun x => ⟨52, [(0, true, .v (.own 0 0)), (1, true, .v (.sl false .int (w))), (5, true, .v (.own 1 0)), (6, true, .v (.bool (x.2.1))), (7, true, .v (.int .i64 (x.2.2)))], [.arr .lrow ys 0 nn, .arr .lrow (x.1) 0 true]⟩) (fun x => x.2.2 ≤ ys.length ∧ x.1.length ≤ 2 * x.2.2 ∧ rw2 x.1 ++ putS w x.2.1 (rw2 (ys.drop x.2.2)) = putS w false (rw2 ys) ∧ (lb1 x.1 ++ lb1 (ys.drop x.2.2)).Nodup) (fun x => ys.length - x.2.2) (([], false, 0)) (⟨Nat.zero_le _, by simp, rfl, hnd⟩) ?_ ?_
  · exact Le.sub (by first | rfl | simp) (by simp only [AW7, simprocAttr, hX]; try simp <;> try (first | rfl | exact ⟨rfl, rfl⟩ | exact ⟨rfl, rfl, rfl⟩))
  rintro ⟨zs, b, i⟩ ⟨hi, hzl, hE, hN⟩ ih
  try simp only []
  simp only [] at hi hzl hE hN
  refine Run.nq ?_; refine Run.regionW hC (fun K hK => ?_); simp only [AW7, simprocAttr, hX]; (repeat (with_reducible refine And.intro ?_ ?_); exact vc0); refine hK _ ?_; clear hK K; refine Run.nq ?_
  refine Run.nq ?_; refine Run.condW (by simp only [AW7, simprocAttr, hX]; rfl) (by simp only [AW7, simprocAttr, hX]) ?_ ?_
  rotate_left
  · intro h
    have hie : i = ys.length := by rw [decide_eq_false_iff_not] at h; omega
    refine Run.exit rfl ?_; refine Run.nq ?_
    refine Run.nq ?_; refine Run.regionW hC (fun K hK => ?_); simp only [AW7, simprocAttr, hX]; (repeat (with_reducible refine And.intro ?_ ?_); exact vc0); refine hK _ ?_; clear hK K; refine Run.nq ?_
    refine Run.nq ?_; refine Run.condW (by simp only [AW7, simprocAttr, hX]; rfl) (by simp only [AW7, simprocAttr, hX]) ?_ ?_
    · intro hb
      have hb : b = false := by simpa using hb
      subst hb
      refine Run.nq ?_; refine Run.regionW hC (fun K hK => ?_); simp only [AW7, simprocAttr, hX]; (repeat (with_reducible refine And.intro ?_ ?_); exact vc0)
      intro q hq
      have hN3 := lb_ins (w := w) hN (hq (.arr .lrow zs 0 true) (.tail _ (.head _)) _ _ _ rfl) (hq (.arr .lrow ys 0 nn) (.head _) _ _ _ rfl)
      rw [hie, List.drop_length] at hE hN3
      have e0 : lb1 ([] : List (Nat × List Int)) = [] := rfl
      rw [e0, List.append_nil] at hN3
      (repeat (with_reducible refine And.intro ?_ ?_); exact vc0)
      (repeat (with_reducible refine And.intro ?_ ?_); exact vc0); refine hK _ ?_; clear hK K; refine Run.nq ?_
      refine Run.nq ?_; refine Run.regionW hC (fun K hK => ?_); simp only [AW7, simprocAttr, hX]; (repeat (with_reducible refine And.intro ?_ ?_); exact vc0); refine hK _ ?_; clear hK K; refine Run.nq ?_
      refine Run.reKP hpin [4] [0, 1] rfl (by simp [oAt, gen0]) (by decide) (by simp) ?_; simp only [AR, AW7, simprocAttr]
      refine Run.retW [4] (by decide) (by rw [hfn]; rfl) (by simp only [AW7, simprocAttr, hX]; rfl) (by simp only [AW7, simprocAttr, hX]) (hfin _ _ _ rfl rfl rfl ?_)
      exact ⟨rfl, _, by rw [← hE, rw2_app]; simp [putS, rw2], hN3, rfl⟩
    intro hb
    have hb : b = true := by simpa using hb
    subst hb
    refine Run.nq ?_; refine Run.regionW hC (fun K hK => ?_); simp only [AW7, simprocAttr, hX]; (repeat (with_reducible refine And.intro ?_ ?_); exact vc0); refine hK _ ?_; clear hK K; refine Run.nq ?_
    refine Run.reKP hpin [4] [0, 1] rfl (by simp [oAt, gen0]) (by decide) (by simp) ?_; simp only [AR, AW7, simprocAttr]
    rw [hie, List.drop_length] at hE hN
    have e0 : lb1 ([] : List (Nat × List Int)) = [] := rfl
    rw [e0, List.append_nil] at hN
    refine Run.retW [4] (by decide) (by rw [hfn]; rfl) (by simp only [AW7, simprocAttr, hX]; rfl) (by simp only [AW7, simprocAttr, hX]) (hfin _ _ _ rfl rfl rfl ?_)
    exact ⟨rfl, zs, by rw [← hE]; simp [putS, rw2], hN, rfl⟩
  intro h
  have h : i < ys.length := by rw [decide_eq_true_eq] at h; omega
  refine Run.nq ?_; refine Run.regionW hC (fun K hK => ?_); simp only [AW7, simprocAttr, hX]; (repeat (with_reducible refine And.intro ?_ ?_); exact vc0)
  refine FunA.callW hP hT (c_spec_CompareWords w (ys.getD i (0, [])).2 (by omega)) (by simp only [AW7, simprocAttr]) ?_
  rintro rs o ⟨rfl, rfl⟩
  (try simp only [AW7, simprocAttr, hX]); (repeat (with_reducible refine And.intro ?_ ?_); exact vc0)
  (repeat (with_reducible refine And.intro ?_ ?_); exact vc0); refine hK _ ?_; clear hK K; refine Run.nq ?_
  have hd : rw2 (ys.drop i) = (ys.getD i (0, [])).2 :: rw2 (ys.drop (i + 1)) := by rw [drop_cons' ys h]; rfl
  rw [hd] at hE
  simp only [putS] at hE
  have hN2 := lb_step h hN
  refine Run.nq ?_; refine Run.regionW hC (fun K hK => ?_); simp only [AW7, simprocAttr, hX]; (repeat (with_reducible refine And.intro ?_ ?_); exact vc0); refine hK _ ?_; clear hK K; refine Run.nq ?_
  refine Run.nq ?_; refine Run.condW (by simp only [AW7, simprocAttr, hX]; rfl) (by simp only [AW7, simprocAttr, hX]) ?_ ?_
  · intro h0
    have h0 : cmpW w (ys.getD i (0, [])).2 = 0 := by simpa using h0
    rw [if_neg (by omega), h0] at hE
    simp only [h0]
    refine Run.nq ?_; refine Run.regionW hC (fun K hK => ?_); simp only [AW7, simprocAttr, hX]; (repeat (with_reducible refine And.intro ?_ ?_); exact vc0); refine hK _ ?_; clear hK K; refine Run.nq ?_
    refine Run.nq ?_; refine Run.regionW hC (fun K hK => ?_); simp only [AW7, simprocAttr, hX]; (repeat (with_reducible refine And.intro ?_ ?_); exact vc0); refine hK _ ?_; clear hK K; refine Run.nq ?_
    refine Run.nq ?_; refine Run.condW (by simp only [AW7, simprocAttr, hX]; rfl) (by simp only [AW7, simprocAttr, hX]) ?_ ?_
    · intro h; cases h
    intro _
    refine Run.nq ?_; refine Run.regionW hC (fun K hK => ?_); simp only [AW7, simprocAttr, hX]; (repeat (with_reducible refine And.intro ?_ ?_); exact vc0); refine hK _ ?_; clear hK K; refine Run.nq ?_
    refine Run.reKP hpin [0, 1, 5, 6, 7] [0, 1] rfl (by simp [oAt, gen0]) (by decide) (by simp) ?_; simp only [AR, AW7, simprocAttr]
    refine Run.nq ?_; refine Run.regionW hC (fun K hK => ?_); simp (disch := omega) only [wrap_id, AW7, simprocAttr, hX]; (repeat (with_reducible refine And.intro ?_ ?_); exact vc0); refine hK _ ?_; clear hK K; refine Run.nq ?_
    refine Run.le ?_ (ih ((zs ++ [((ys.getD i (0, [])).1, (ys.getD i (0, [])).2)], true, i + 1)) (⟨h, by simp; omega, by rw [rw2_app, List.append_assoc, ← hE]; simp [rw2], hN2⟩) (by (try simp only [List.length_append, List.length_cons, List.length_nil]); omega))
    exact Le.sub (by rfl) (by simp only [AW7, simprocAttr]; try simp)
  intro h0
  have h0 : (cmpW w (ys.getD i (0, [])).2 == 0) = false := h0
  rw [h0, Bool.or_false] at hE
  refine Run.nq ?_; refine Run.regionW hC (fun K hK => ?_); simp only [AW7, simprocAttr, hX]; (repeat (with_reducible refine And.intro ?_ ?_); exact vc0); refine hK _ ?_; clear hK K; refine Run.nq ?_
  refine Run.nq ?_; refine Run.condW (by simp only [AW7, simprocAttr, hX]; rfl) (by simp only [AW7, simprocAttr, hX]) ?_ ?_
  · intro hlt
    have hlt : cmpW w (ys.getD i (0, [])).2 < 0 ∧ b = false := by simpa using hlt
    obtain ⟨hl1, rfl⟩ := hlt
    rw [if_pos ⟨hl1, rfl⟩] at hE
    refine Run.nq ?_; refine Run.regionW hC (fun K hK => ?_); simp only [AW7, simprocAttr, hX]; (repeat (with_reducible refine And.intro ?_ ?_); exact vc0)
    intro q hq
    have hN3 := lb_ins (w := w) hN (hq (.arr .lrow zs 0 true) (.tail _ (.head _)) _ _ _ rfl) (hq (.arr .lrow ys 0 nn) (.head _) _ _ _ rfl)
    (repeat (with_reducible refine And.intro ?_ ?_); exact vc0)
    (repeat (with_reducible refine And.intro ?_ ?_); exact vc0); refine hK _ ?_; clear hK K; refine Run.nq ?_
    refine Run.nq ?_; refine Run.regionW hC (fun K hK => ?_); simp only [AW7, simprocAttr, hX]; (repeat (with_reducible refine And.intro ?_ ?_); exact vc0); refine hK _ ?_; clear hK K; refine Run.nq ?_
    refine Run.nq ?_; refine Run.regionW hC (fun K hK => ?_); simp only [AW7, simprocAttr, hX]; (repeat (with_reducible refine And.intro ?_ ?_); exact vc0); refine hK _ ?_; clear hK K; refine Run.nq ?_
    have hN4 := lb_step h hN3
    refine Run.reKP hpin [0, 1, 5, 6, 7] [0, 1] rfl (by simp [oAt, gen0]) (by decide) (by simp) ?_; simp only [AR, AW7, simprocAttr]
    refine Run.nq ?_; refine Run.regionW hC (fun K hK => ?_); simp (disch := omega) only [wrap_id, AW7, simprocAttr, hX]; (repeat (with_reducible refine And.intro ?_ ?_); exact vc0); refine hK _ ?_; clear hK K; refine Run.nq ?_
    refine Run.le ?_ (ih ((zs ++ [(q, w)] ++ [((ys.getD i (0, [])).1, (ys.getD i (0, [])).2)], true, i + 1)) (⟨h, by simp only [List.length_append, List.length_cons, List.length_nil]; omega, by rw [rw2_app, rw2_app, List.append_assoc, List.append_assoc, ← hE]; simp [rw2], hN4⟩) (by (try simp only [List.length_append, List.length_cons, List.length_nil]); omega))
    exact Le.sub (by rfl) (by simp only [AW7, simprocAttr]; try simp)
  intro hlt
  have hlt : ¬ (cmpW w (ys.getD i (0, [])).2 < 0 ∧ b = false) := by intro ⟨k1, k2⟩; rw [k2, decide_eq_true k1] at hlt; cases hlt
  rw [if_neg hlt] at hE
  refine Run.nq ?_; refine Run.regionW hC (fun K hK => ?_); simp only [AW7, simprocAttr, hX]; (repeat (with_reducible refine And.intro ?_ ?_); exact vc0); refine hK _ ?_; clear hK K; refine Run.nq ?_
  refine Run.reKP hpin [0, 1, 5, 6, 7] [0, 1] rfl (by simp [oAt, gen0]) (by decide) (by simp) ?_; simp only [AR, AW7, simprocAttr]
  refine Run.nq ?_; refine Run.regionW hC (fun K hK => ?_); simp (disch := omega) only [wrap_id, AW7, simprocAttr, hX]; (repeat (with_reducible refine And.intro ?_ ?_); exact vc0); refine hK _ ?_; clear hK K; refine Run.nq ?_
  refine Run.le ?_ (ih ((zs ++ [((ys.getD i (0, [])).1, (ys.getD i (0, [])).2)], b, i + 1)) (⟨h, by simp; omega, by rw [rw2_app, List.append_assoc, ← hE]; simp [rw2], hN2⟩) (by (try simp only [List.length_append, List.length_cons, List.length_nil]); omega))
  exact Le.sub (by rfl) (by simp only [AW7, simprocAttr]; try simp)
end Go.Proofs.Ytdhfonblpbpmmaa

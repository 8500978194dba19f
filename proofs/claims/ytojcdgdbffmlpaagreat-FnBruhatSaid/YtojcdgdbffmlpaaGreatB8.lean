/- A word put into an ordered list. -/
import Derived.Test.YtojcdgdbffmlpaaGreatB7
import Derived.Test.YtojcdgdbffmlpaaGreatB6
set_option linter.unusedVariables false
set_option linter.unusedSimpArgs false
namespace Go.Proofs.YtojcdgdbffmlpaaGreat
open Go Go.Aw
def putS (w : List Int) : Bool → List (List Int) → List (List Int)
  | b, [] => if b then [] else [w]
  | b, x :: l => if cmpW w x < 0 ∧ b = false then w :: x :: putS w true l else x :: putS w (b || cmpW w x == 0) l
def rw2 (ys : List (Nat × List Int)) : List (List Int) := ys.map (·.2)
def lb1 (ys : List (Nat × List Int)) : List Nat := ys.map (·.1)
theorem rw2_app (a b : List (Nat × List Int)) : rw2 (a ++ b) = rw2 a ++ rw2 b := by simp [rw2]
theorem lb1_app (a b : List (Nat × List Int)) : lb1 (a ++ b) = lb1 a ++ lb1 b := by simp [lb1]
theorem drop_cons' (ys : List (Nat × List Int)) {i : Nat} (h : i < ys.length) : ys.drop i = ys.getD i (0, []) :: ys.drop (i + 1) := by
  rw [List.drop_eq_getElem_cons h, getD_eq h]
theorem lb_step {zs ys : List (Nat × List Int)} {i : Nat} (h : i < ys.length) (hn : (lb1 zs ++ lb1 (ys.drop i)).Nodup) : (lb1 (zs ++ [((ys.getD i (0, [])).1, (ys.getD i (0, [])).2)]) ++ lb1 (ys.drop (i + 1))).Nodup := by
  rw [drop_cons' ys h] at hn
  have e : lb1 (ys.getD i (0, []) :: ys.drop (i + 1)) = [(ys.getD i (0, [])).1] ++ lb1 (ys.drop (i + 1)) := rfl
  rw [e, ← List.append_assoc] at hn
  rw [lb1_app]
  exact hn
theorem lb_ins {zs ys : List (Nat × List Int)} {i q : Nat} {w : List Int} (hn : (lb1 zs ++ lb1 (ys.drop i)).Nodup) (h1 : ∀ p ∈ zs, p.1 ≠ q) (h2 : ∀ p ∈ ys, p.1 ≠ q) : (lb1 (zs ++ [(q, w)]) ++ lb1 (ys.drop i)).Nodup := by
  rw [lb1_app, List.append_assoc]
  rw [List.nodup_append] at hn ⊢
  obtain ⟨n1, n2, n3⟩ := hn
  refine ⟨n1, ?_, fun a ha b hb => ?_⟩
  · show (q :: lb1 (ys.drop i)).Nodup
    rw [List.nodup_cons]
    refine ⟨fun hm => ?_, n2⟩
    obtain ⟨p, hp, e⟩ := List.mem_map.1 hm
    exact h2 p (List.mem_of_mem_drop hp) e
  · rcases List.mem_append.1 hb with hb | hb
    · simp [lb1] at hb
      obtain ⟨p, hp, rfl⟩ := List.mem_map.1 ha
      rw [hb]; exact h1 p hp
    · exact n3 a ha b hb
set_option maxHeartbeats 1000000 in
theorem c_spec_l11Put (ys : List (Nat × List Int)) (w : List Int) (hnd : (lb1 ys).Nodup) (hyl : ys.length ≤ 100000) (hw : w.length ≤ 1048576) (nn : Bool) :
    FunM B 126 [.own 0 0, .sl false .int w] .lrow ys nn (fun rs o => rs = [.own 1 0] ∧ ∃ ys', rw2 ys' = putS w false (rw2 ys) ∧ (lb1 ys').Nodup ∧ o = [.arr .lrow ys 0 nn, .arr .lrow ys' 0 true]) := by
  refine FunM.walk B_ok (fn := Tryz.f126) (fun vs w => Tryz.call126 vs w) Tryz.func126 rfl (by rw [Tryz.ntmps126]; simp) (fun C hC hP hT hΓ hbt hfn hpin hfin => ?_); have hX := BX; rw [← hΓ, ← hbt.1, ← hbt.2] at hX; rw [Tryz.ntmps126]; simp only [AW7, simprocAttr, hX]
  refine Run.nq ?_; refine Run.regionW hC (fun K hK => ?_); simp only [AW7, simprocAttr, hX]; (repeat (with_reducible refine And.intro ?_ ?_); exact vc0); refine hK _ ?_; clear hK K; refine Run.nq ?_
  refine Run.nq ?_; refine Run.regionW hC (fun K hK => ?_); simp only [AW7, simprocAttr, hX]; (repeat (with_reducible refine And.intro ?_ ?_); exact vc0); refine hK _ ?_; clear hK K; refine Run.nq ?_
  refine Run.nq ?_; refine Run.regionW hC (fun K hK => ?_); simp only [AW7, simprocAttr, hX]; (repeat (with_reducible refine And.intro ?_ ?_); exact vc0); refine hK _ ?_; clear hK K; refine Run.nq ?_
  refine Run.nq ?_; refine Run.regionW hC (fun K hK => ?_); simp only [AW7, simprocAttr, hX]; (repeat (with_reducible refine And.intro ?_ ?_); exact vc0); refine hK _ ?_; clear hK K; refine Run.nq ?_
  refine Run.reKP hpin [0, 1, 5, 6, 7] [0, 1] rfl (by simp [oAt, gen0]) (by decide) (by simp) ?_; simp only [AR, AW7, simprocAttr]
  refine Run.loopI (X := List (Nat × List Int) × Bool × Nat) (fun x => ⟨52, [(0, true, .v (.own 0 0)), (1, true, .v (.sl false .int (w))), (5, true, .v (.own 1 0)), (6, true, .v (.bool (x.2.1))), (7, true, .v (.int .i64 (x.2.2)))], [.arr .lrow ys 0 nn, .arr .lrow (x.1) 0 true]⟩) (fun x => x.2.2 ≤ ys.length ∧ x.1.length ≤ 2 * x.2.2 ∧ rw2 x.1 ++ putS w x.2.1 (rw2 (ys.drop x.2.2)) = putS w false (rw2 ys) ∧ (lb1 x.1 ++ lb1 (ys.drop x.2.2)).Nodup) (fun x => ys.length - x.2.2) (([], false, 0)) (⟨Nat.zero_le _, by simp, rfl, hnd⟩) ?_ ?_
  · exact Le.sub (by first | rfl | simp) (by simp only [AW7, simprocAttr, hX]; try simp <;> try (first | rfl | exact ⟨rfl, rfl⟩ | exact ⟨rfl, rfl, rfl⟩))
  rintro ⟨zs, b, i⟩ ⟨hi, hzl, hE, hN⟩ ih
  try simp only []
  simp only [] at hi hzl hE hN
  refine Run.nq ?_; refine Run.regionW hC (fun K hK => ?_); simp only [AW7, simprocAttr, hX]; (repeat (with_reducible refine And.intro ?_ ?_); exact vc0); refine hK _ ?_; clear hK K; refine Run.nq ?_
  refine Run.nq ?_; refine Run.condW (by simp only [AW7, simprocAttr, hX]; rfl) (by simp only [AW7, simprocAttr, hX]) ?_ ?_
  rotate_left
  · intro h
    have hie : i = ys.length := by rw [decide_eq_false_iff_not] at h; omega
    refine Run.exit rfl ?_; refine Run.nq ?_
    refine Run.nq ?_; refine Run.regionW hC (fun K hK => ?_); simp only [AW7, simprocAttr, hX]; (repeat (with_reducible refine And.intro ?_ ?_); exact vc0); refine hK _ ?_; clear hK K; refine Run.nq ?_
    refine Run.nq ?_; refine Run.condW (by simp only [AW7, simprocAttr, hX]; rfl) (by simp only [AW7, simprocAttr, hX]) ?_ ?_
    · intro hb
      have hb : b = false := by simpa using hb
      subst hb
      refine Run.nq ?_; refine Run.regionW hC (fun K hK => ?_); simp only [AW7, simprocAttr, hX]; (repeat (with_reducible refine And.intro ?_ ?_); exact vc0)
      intro q hq
      have hN3 := lb_ins (w := w) hN (hq (.arr .lrow zs 0 true) (.tail _ (.head _)) _ _ _ rfl) (hq (.arr .lrow ys 0 nn) (.head _) _ _ _ rfl)
      rw [hie, List.drop_length] at hE hN3
      have e0 : lb1 ([] : List (Nat × List Int)) = [] := rfl
      rw [e0, List.append_nil] at hN3
      (repeat (with_reducible refine And.intro ?_ ?_); exact vc0)
      (repeat (with_reducible refine And.intro ?_ ?_); exact vc0); refine hK _ ?_; clear hK K; refine Run.nq ?_
      refine Run.nq ?_; refine Run.regionW hC (fun K hK => ?_); simp only [AW7, simprocAttr, hX]; (repeat (with_reducible refine And.intro ?_ ?_); exact vc0); refine hK _ ?_; clear hK K; refine Run.nq ?_
      refine Run.reKP hpin [4] [0, 1] rfl (by simp [oAt, gen0]) (by decide) (by simp) ?_; simp only [AR, AW7, simprocAttr]
      refine Run.retW [4] (by decide) (by rw [hfn]; rfl) (by simp only [AW7, simprocAttr, hX]; rfl) (by simp only [AW7, simprocAttr, hX]) (hfin _ _ _ rfl rfl rfl ?_)
      exact ⟨rfl, _, by rw [← hE, rw2_app]; simp [putS, rw2], hN3, rfl⟩
    intro hb
    have hb : b = true := by simpa using hb
    subst hb
    refine Run.nq ?_; refine Run.regionW hC (fun K hK => ?_); simp only [AW7, simprocAttr, hX]; (repeat (with_reducible refine And.intro ?_ ?_); exact vc0); refine hK _ ?_; clear hK K; refine Run.nq ?_
    refine Run.reKP hpin [4] [0, 1] rfl (by simp [oAt, gen0]) (by decide) (by simp) ?_; simp only [AR, AW7, simprocAttr]
    rw [hie, List.drop_length] at hE hN
    have e0 : lb1 ([] : List (Nat × List Int)) = [] := rfl
    rw [e0, List.append_nil] at hN
    refine Run.retW [4] (by decide) (by rw [hfn]; rfl) (by simp only [AW7, simprocAttr, hX]; rfl) (by simp only [AW7, simprocAttr, hX]) (hfin _ _ _ rfl rfl rfl ?_)
    exact ⟨rfl, zs, by rw [← hE]; simp [putS, rw2], hN, rfl⟩
  intro h
  have h : i < ys.length := by rw [decide_eq_true_eq] at h; omega
  refine Run.nq ?_; refine Run.regionW hC (fun K hK => ?_); simp only [AW7, simprocAttr, hX]; (repeat (with_reducible refine And.intro ?_ ?_); exact vc0)
  refine FunA.callW hP hT (c_spec_CompareWords w (ys.getD i (0, [])).2 (by omega)) (by simp only [AW7, simprocAttr]) ?_
  rintro rs o ⟨rfl, rfl⟩
  (try simp only [AW7, simprocAttr, hX]); (repeat (with_reducible refine And.intro ?_ ?_); exact vc0)
  (repeat (with_reducible refine And.intro ?_ ?_); exact vc0); refine hK _ ?_; clear hK K; refine Run.nq ?_
  have hd : rw2 (ys.drop i) = (ys.getD i (0, [])).2 :: rw2 (ys.drop (i + 1)) := by rw [drop_cons' ys h]; rfl
  rw [hd] at hE
  simp only [putS] at hE
  have hN2 := lb_step h hN
  refine Run.nq ?_; refine Run.regionW hC (fun K hK => ?_); simp only [AW7, simprocAttr, hX]; (repeat (with_reducible refine And.intro ?_ ?_); exact vc0); refine hK _ ?_; clear hK K; refine Run.nq ?_
  refine Run.nq ?_; refine Run.condW (by simp only [AW7, simprocAttr, hX]; rfl) (by simp only [AW7, simprocAttr, hX]) ?_ ?_
  · intro h0
    have h0 : cmpW w (ys.getD i (0, [])).2 = 0 := by simpa using h0
    rw [if_neg (by omega), h0] at hE
    simp only [h0]
    refine Run.nq ?_; refine Run.regionW hC (fun K hK => ?_); simp only [AW7, simprocAttr, hX]; (repeat (with_reducible refine And.intro ?_ ?_); exact vc0); refine hK _ ?_; clear hK K; refine Run.nq ?_
    refine Run.nq ?_; refine Run.regionW hC (fun K hK => ?_); simp only [AW7, simprocAttr, hX]; (repeat (with_reducible refine And.intro ?_ ?_); exact vc0); refine hK _ ?_; clear hK K; refine Run.nq ?_
    refine Run.nq ?_; refine Run.condW (by simp only [AW7, simprocAttr, hX]; rfl) (by simp only [AW7, simprocAttr, hX]) ?_ ?_
    · intro h; cases h
    intro _
    refine Run.nq ?_; refine Run.regionW hC (fun K hK => ?_); simp only [AW7, simprocAttr, hX]; (repeat (with_reducible refine And.intro ?_ ?_); exact vc0); refine hK _ ?_; clear hK K; refine Run.nq ?_
    refine Run.reKP hpin [0, 1, 5, 6, 7] [0, 1] rfl (by simp [oAt, gen0]) (by decide) (by simp) ?_; simp only [AR, AW7, simprocAttr]
    refine Run.nq ?_; refine Run.regionW hC (fun K hK => ?_); simp (disch := omega) only [wrap_id, AW7, simprocAttr, hX]; (repeat (with_reducible refine And.intro ?_ ?_); exact vc0); refine hK _ ?_; clear hK K; refine Run.nq ?_
    refine Run.le ?_ (ih ((zs ++ [((ys.getD i (0, [])).1, (ys.getD i (0, [])).2)], true, i + 1)) (⟨h, by simp; omega, by rw [rw2_app, List.append_assoc, ← hE]; simp [rw2], hN2⟩) (by (try simp only [List.length_append, List.length_cons, List.length_nil]); omega))
    exact Le.sub (by rfl) (by simp only [AW7, simprocAttr]; try simp)
  intro h0
  have h0 : (cmpW w (ys.getD i (0, [])).2 == 0) = false := h0
  rw [h0, Bool.or_false] at hE
  refine Run.nq ?_; refine Run.regionW hC (fun K hK => ?_); simp only [AW7, simprocAttr, hX]; (repeat (with_reducible refine And.intro ?_ ?_); exact vc0); refine hK _ ?_; clear hK K; refine Run.nq ?_
  refine Run.nq ?_; refine Run.condW (by simp only [AW7, simprocAttr, hX]; rfl) (by simp only [AW7, simprocAttr, hX]) ?_ ?_
  · intro hlt
    have hlt : cmpW w (ys.getD i (0, [])).2 < 0 ∧ b = false := by simpa using hlt
    obtain ⟨hl1, rfl⟩ := hlt
    rw [if_pos ⟨hl1, rfl⟩] at hE
    refine Run.nq ?_; refine Run.regionW hC (fun K hK => ?_); simp only [AW7, simprocAttr, hX]; (repeat (with_reducible refine And.intro ?_ ?_); exact vc0)
    intro q hq
    have hN3 := lb_ins (w := w) hN (hq (.arr .lrow zs 0 true) (.tail _ (.head _)) _ _ _ rfl) (hq (.arr .lrow ys 0 nn) (.head _) _ _ _ rfl)
    (repeat (with_reducible refine And.intro ?_ ?_); exact vc0)
    (repeat (with_reducible refine And.intro ?_ ?_); exact vc0); refine hK _ ?_; clear hK K; refine Run.nq ?_
    refine Run.nq ?_; refine Run.regionW hC (fun K hK => ?_); simp only [AW7, simprocAttr, hX]; (repeat (with_reducible refine And.intro ?_ ?_); exact vc0); refine hK _ ?_; clear hK K; refine Run.nq ?_
    refine Run.nq ?_; refine Run.regionW hC (fun K hK => ?_); simp only [AW7, simprocAttr, hX]; (repeat (with_reducible refine And.intro ?_ ?_); exact vc0); refine hK _ ?_; clear hK K; refine Run.nq ?_
    have hN4 := lb_step h hN3
    refine Run.reKP hpin [0, 1, 5, 6, 7] [0, 1] rfl (by simp [oAt, gen0]) (by decide) (by simp) ?_; simp only [AR, AW7, simprocAttr]
    refine Run.nq ?_; refine Run.regionW hC (fun K hK => ?_); simp (disch := omega) only [wrap_id, AW7, simprocAttr, hX]; (repeat (with_reducible refine And.intro ?_ ?_); exact vc0); refine hK _ ?_; clear hK K; refine Run.nq ?_
    refine Run.le ?_ (ih ((zs ++ [(q, w)] ++ [((ys.getD i (0, [])).1, (ys.getD i (0, [])).2)], true, i + 1)) (⟨h, by simp only [List.length_append, List.length_cons, List.length_nil]; omega, by rw [rw2_app, rw2_app, List.append_assoc, List.append_assoc, ← hE]; simp [rw2], hN4⟩) (by (try simp only [List.length_append, List.length_cons, List.length_nil]); omega))
    exact Le.sub (by rfl) (by simp only [AW7, simprocAttr]; try simp)
  intro hlt
  have hlt : ¬ (cmpW w (ys.getD i (0, [])).2 < 0 ∧ b = false) := by intro ⟨k1, k2⟩; rw [k2, decide_eq_true k1] at hlt; cases hlt
  rw [if_neg hlt] at hE
  refine Run.nq ?_; refine Run.regionW hC (fun K hK => ?_); simp only [AW7, simprocAttr, hX]; (repeat (with_reducible refine And.intro ?_ ?_); exact vc0); refine hK _ ?_; clear hK K; refine Run.nq ?_
  refine Run.reKP hpin [0, 1, 5, 6, 7] [0, 1] rfl (by simp [oAt, gen0]) (by decide) (by simp) ?_; simp only [AR, AW7, simprocAttr]
  refine Run.nq ?_; refine Run.regionW hC (fun K hK => ?_); simp (disch := omega) only [wrap_id, AW7, simprocAttr, hX]; (repeat (with_reducible refine And.intro ?_ ?_); exact vc0); refine hK _ ?_; clear hK K; refine Run.nq ?_
  refine Run.le ?_ (ih ((zs ++ [((ys.getD i (0, [])).1, (ys.getD i (0, [])).2)], b, i + 1)) (⟨h, by simp; omega, by rw [rw2_app, List.append_assoc, ← hE]; simp [rw2], hN2⟩) (by (try simp only [List.length_append, List.length_cons, List.length_nil]); omega))
  exact Le.sub (by rfl) (by simp only [AW7, simprocAttr]; try simp)
end Go.Proofs.YtojcdgdbffmlpaaGreat
namespace Go.Proofs.YtojcdgdbffmlpaaGreat
open Go Go.Aw
end Go.Proofs.YtojcdgdbffmlpaaGreat
namespace Go.Proofs.YtojcdgdbffmlpaaGreat
open Go Go.Aw
abbrev ent (c : List (List Int)) (i j : Nat) : Int := (c.getD i []).getD j 0
def badE (c : List (List Int)) (i j : Nat) : Prop := (i = j ∧ ent c i j ≠ 2) ∨ (i ≠ j ∧ (ent c i j < -3 ∨ ent c i j > 0 ∨ ¬ (ent c i j = 0 ↔ ent c j i = 0)))
def CartanP (c : List (List Int)) : Prop := 1 ≤ c.length ∧ c.length ≤ 4 ∧ (∀ i, i < c.length → (c.getD i []).length = c.length) ∧ ∀ i j, i < c.length → j < c.length → ¬ badE c i j
open Classical in
noncomputable def isC (c : List (List Int)) : Bool := decide (CartanP c)
theorem isC_iff {c : List (List Int)} : isC c = true ↔ CartanP c := by simp [isC]
theorem isC_false {c : List (List Int)} (h : ¬ CartanP c) : isC c = false := by simp [isC, h]
theorem isC_true {c : List (List Int)} (h : CartanP c) : isC c = true := isC_iff.2 h
theorem badE_impl (c : List (List Int)) (i j : Nat) : (bif bif (i : Int) == (j : Int) then ent c i j != 2 else false then true
                else
                  bif (i : Int) != (j : Int) then
                    bif
                        bif decide (ent c i j < -3) then true
                        else decide (0 < ent c i j) then
                      true
                    else (ent c i j == 0) != (ent c j i == 0)
                  else false) = true ↔ badE c i j := by
  unfold badE
  have e : ((i : Int) == (j : Int)) = decide (i = j) := by
    rw [Bool.eq_iff_iff]; simp; omega
  have e2 : ((i : Int) != (j : Int)) = !decide (i = j) := by rw [← e]; rfl
  rw [e, e2]
  generalize ent c i j = x
  generalize ent c j i = y
  have e3 : (x == 0) = decide (x = 0) := by rw [Bool.eq_iff_iff]; simp
  have e4 : (y == 0) = decide (y = 0) := by rw [Bool.eq_iff_iff]; simp
  rw [e3, e4]
  by_cases h : i = j
  · simp [h]
  · simp only [h, decide_false, cond_false, Bool.not_false, cond_true, false_and, ne_eq, not_false_eq_true, true_and, false_or]
    by_cases h1 : x < -3
    · simp [h1]
    · by_cases h2 : 0 < x
      · simp [h2]
      · simp only [h1, h2, decide_false, cond_false, false_or]
        by_cases h3 : x = 0 <;> by_cases h4 : y = 0 <;> simp [h3, h4]
theorem c_impl_IsCartan (c : List (List Int)) : FunA B 163 [.sl false (.row false) c] (fun rs o => rs = [.bool (isC c)] ∧ o = []) := by
  refine FunA.walk B_ok (fn := Tryz.f163) (fun vs w => Tryz.call163 vs w) Tryz.func163 rfl (by rw [Tryz.ntmps163]; simp) (fun C hC hP hT hΓ hbt hfn hpin hfin => ?_); have hX := BX; rw [← hΓ, ← hbt.1, ← hbt.2] at hX; rw [Tryz.ntmps163]; simp only [AW7, simprocAttr, hX]
  refine Run.len 0 rfl fun hlen => ?_
  refine Run.nq ?_; refine Run.regionW hC (fun K hK => ?_); simp only [AW7, simprocAttr, hX]; (repeat (with_reducible refine And.intro ?_ ?_); exact vc0); refine hK _ ?_; clear hK K; refine Run.nq ?_
  refine Run.nq ?_; refine Run.regionW hC (fun K hK => ?_); simp only [AW7, simprocAttr, hX]; (repeat (with_reducible refine And.intro ?_ ?_); exact vc0); refine hK _ ?_; clear hK K; refine Run.nq ?_
  refine Run.nq ?_; refine Run.regionW hC (fun K hK => ?_); simp only [AW7, simprocAttr, hX]; (repeat (with_reducible refine And.intro ?_ ?_); exact vc0); refine hK _ ?_; clear hK K; refine Run.nq ?_
  refine Run.keep [0, 2, 3, 16] ?_; simp only [AK, Nat.reduceBEq]
  refine Run.nq ?_; refine Run.condW (by simp only [AW7, simprocAttr, hX]; rfl) (by simp only [AW7, simprocAttr, hX]) ?_ ?_
  · intro hc
    refine Run.nq ?_; refine Run.regionW hC (fun K hK => ?_); simp only [AW7, simprocAttr, hX]; (repeat (with_reducible refine And.intro ?_ ?_); exact vc0); refine hK _ ?_; clear hK K; refine Run.nq ?_
    refine Run.retW [2] (by decide) (by rw [hfn]; rfl) (by simp only [AW7, simprocAttr, hX]; rfl) (by simp only [AW7, simprocAttr, hX]) (hfin _ _ rfl rfl ?_)
    refine ⟨?_, rfl⟩
    rw [isC_false fun h => ?_]
    obtain ⟨h1, h2, _⟩ := h
    by_cases h3 : (c.length : Int) < 1
    · omega
    · simp [h3] at hc; omega
  intro hc
  have hn : 1 ≤ c.length ∧ c.length ≤ 4 := by
    by_cases h3 : (c.length : Int) < 1
    · simp [h3] at hc
    · simp [h3] at hc; omega
  refine Run.nq ?_; refine Run.regionW hC (fun K hK => ?_); simp only [AW7, simprocAttr, hX]; (repeat (with_reducible refine And.intro ?_ ?_); exact vc0); refine hK _ ?_; clear hK K; refine Run.nq ?_
  refine Run.keep [0, 2, 3, 17, 18, 19] ?_; simp only [AK, Nat.reduceBEq]
  refine Run.loopI (X := Nat) (fun i => ⟨78, [(0, true, .v (.sl false (.row false) c)), (2, true, .v (.bool false)), (3, true, .v (.int .i64 c.length)), (17, true, .v (.sl false (.row false) c)), (18, true, .v (.int .i64 c.length)), (19, true, .v (.int .i64 i))], []⟩) (fun i => i ≤ c.length ∧ ∀ k, k < i → (c.getD k []).length = c.length) (fun i => c.length - i) 0 ⟨Nat.zero_le _, by omega⟩ ?_ ?_
  · exact Le.sub (by simp only [AW7, simprocAttr]) (by simp only [AW7, simprocAttr]; try simp)
  rintro i ⟨hi, hrow⟩ ih
  refine Run.nq ?_; refine Run.regionW hC (fun K hK => ?_); simp only [AW7, simprocAttr, hX]; (repeat (with_reducible refine And.intro ?_ ?_); exact vc0); refine hK _ ?_; clear hK K; refine Run.nq ?_
  refine Run.nq ?_; refine Run.condW (by simp only [AW7, simprocAttr, hX]; rfl) (by simp only [AW7, simprocAttr, hX]) ?_ ?_
  · intro hc2
    have hc2 : i < c.length := by simpa using hc2
    refine Run.nq ?_; refine Run.regionW hC (fun K hK => ?_); simp only [AW7, simprocAttr, hX]; (repeat (with_reducible refine And.intro ?_ ?_); exact vc0); refine hK _ ?_; clear hK K; refine Run.nq ?_
    refine Run.nq ?_; refine Run.regionW hC (fun K hK => ?_); simp only [AW7, simprocAttr, hX]; (repeat (with_reducible refine And.intro ?_ ?_); exact vc0); refine hK _ ?_; clear hK K; refine Run.nq ?_
    refine Run.nq ?_; refine Run.condW (by simp only [AW7, simprocAttr, hX]; rfl) (by simp only [AW7, simprocAttr, hX]) ?_ ?_
    · intro hne
      refine Run.nq ?_; refine Run.regionW hC (fun K hK => ?_); simp only [AW7, simprocAttr, hX]; (repeat (with_reducible refine And.intro ?_ ?_); exact vc0); refine hK _ ?_; clear hK K; refine Run.nq ?_
      refine Run.retW [2] (by decide) (by rw [hfn]; rfl) (by simp only [AW7, simprocAttr, hX]; rfl) (by simp only [AW7, simprocAttr, hX]) (hfin _ _ rfl rfl ?_)
      refine ⟨?_, rfl⟩
      rw [isC_false fun h => ?_]
      have := h.2.2.1 i hc2
      have hne : ¬ (c.getD i []).length = c.length := by simp [-List.getD_eq_getElem?_getD] at hne; omega
      exact hne this
    · intro heq
      have heq : (c.getD i []).length = c.length := by simp [-List.getD_eq_getElem?_getD] at heq; omega
      refine Run.nq ?_; refine Run.regionW hC (fun K hK => ?_); simp (disch := omega) only [wrap_id, AW7, simprocAttr, hX]; (repeat (with_reducible refine And.intro ?_ ?_); exact vc0); refine hK _ ?_; clear hK K; refine Run.nq ?_
      refine Run.le ?_ (ih (i + 1) ⟨hc2, fun k hk => ?_⟩ (by omega))
      · exact Le.sub (by simp only [AW7, simprocAttr]) (by simp only [AW7, simprocAttr, Option.some.injEq, Prod.mk.injEq, Sl.v.injEq, AV.int.injEq, AV.own.injEq, AV.bool.injEq]; try (repeat' apply And.intro); all_goals omega)
      · rcases Nat.lt_succ_iff_lt_or_eq.1 hk with h | rfl
        · exact hrow k h
        · exact heq
  intro hc2
  have hc2 : i = c.length := by simp at hc2; omega
  subst hc2
  refine Run.exit rfl ?_; refine Run.nq ?_
  refine Run.nq ?_; refine Run.regionW hC (fun K hK => ?_); simp only [AW7, simprocAttr, hX]; (repeat (with_reducible refine And.intro ?_ ?_); exact vc0); refine hK _ ?_; clear hK K; refine Run.nq ?_
  refine Run.keep [0, 2, 3, 28, 29] ?_; simp only [AK, Nat.reduceBEq]
  refine Run.loopI (X := Nat) (fun i => ⟨78, [(0, true, .v (.sl false (.row false) c)), (2, true, .v (.bool false)), (3, true, .v (.int .i64 c.length)), (28, true, .v (.int .i64 c.length)), (29, true, .v (.int .i64 i))], []⟩) (fun i => i ≤ c.length ∧ ∀ k j, k < i → j < c.length → ¬ badE c k j) (fun i => c.length - i) 0 ⟨Nat.zero_le _, by omega⟩ ?_ ?_
  · exact Le.sub (by simp only [AW7, simprocAttr]) (by simp only [AW7, simprocAttr]; try simp)
  clear ih
  rintro i ⟨hi, hcel⟩ ih
  refine Run.nq ?_; refine Run.regionW hC (fun K hK => ?_); simp only [AW7, simprocAttr, hX]; (repeat (with_reducible refine And.intro ?_ ?_); exact vc0); refine hK _ ?_; clear hK K; refine Run.nq ?_
  refine Run.nq ?_; refine Run.condW (by simp only [AW7, simprocAttr, hX]; rfl) (by simp only [AW7, simprocAttr, hX]) ?_ ?_
  · intro hc2
    have hc2 : i < c.length := by simpa using hc2
    have hri := hrow i hc2
    refine Run.nq ?_; refine Run.regionW hC (fun K hK => ?_); simp only [AW7, simprocAttr, hX]; (repeat (with_reducible refine And.intro ?_ ?_); exact vc0); refine hK _ ?_; clear hK K; refine Run.nq ?_
    refine Run.nq ?_; refine Run.regionW hC (fun K hK => ?_); simp only [AW7, simprocAttr, hX]; (repeat (with_reducible refine And.intro ?_ ?_); exact vc0); refine hK _ ?_; clear hK K; refine Run.nq ?_
    refine Run.keep [0, 2, 3, 28, 29, 6, 32, 33] ?_; simp only [AK, Nat.reduceBEq]
    refine Run.loopI (X := Nat) (fun j => ⟨78, [(0, true, .v (.sl false (.row false) c)), (2, true, .v (.bool false)), (3, true, .v (.int .i64 c.length)), (28, true, .v (.int .i64 c.length)), (29, true, .v (.int .i64 i)), (6, true, .v (.int .i64 i)), (32, true, .v (.int .i64 c.length)), (33, true, .v (.int .i64 j))], []⟩) (fun j => j ≤ c.length ∧ ∀ q, q < j → ¬ badE c i q) (fun j => c.length - j) 0 ⟨Nat.zero_le _, by omega⟩ ?_ ?_
    · exact Le.sub (by simp only [AW7, simprocAttr]) (by simp only [AW7, simprocAttr]; try simp)
    rintro j ⟨hj, hcj⟩ ihj
    refine Run.nq ?_; refine Run.regionW hC (fun K hK => ?_); simp only [AW7, simprocAttr, hX]; (repeat (with_reducible refine And.intro ?_ ?_); exact vc0); refine hK _ ?_; clear hK K; refine Run.nq ?_
    refine Run.nq ?_; refine Run.condW (by simp only [AW7, simprocAttr, hX]; rfl) (by simp only [AW7, simprocAttr, hX]) ?_ ?_
    · intro hc3
      have hc3 : j < c.length := by simpa using hc3
      have hrj := hrow j hc3
      refine Run.nq ?_; refine Run.regionW hC (fun K hK => ?_); simp only [AW7, simprocAttr, hX]; (repeat (with_reducible refine And.intro ?_ ?_); exact vc0); refine hK _ ?_; clear hK K; refine Run.nq ?_
      refine Run.nq ?_; refine Run.regionW hC (fun K hK => ?_); simp only [AW7, simprocAttr, hX]; (repeat (with_reducible refine And.intro ?_ ?_); exact vc0); refine hK _ ?_; clear hK K; refine Run.nq ?_
      refine Run.nq ?_; refine Run.regionW hC (fun K hK => ?_); simp only [AW7, simprocAttr, hX]; (repeat (with_reducible refine And.intro ?_ ?_); exact vc0); refine hK _ ?_; clear hK K; refine Run.nq ?_
      refine Run.keep [0, 2, 3, 28, 29, 6, 32, 33, 75] ?_; simp only [AK, Nat.reduceBEq]
      refine Run.nq ?_; refine Run.condW (by simp only [AW7, simprocAttr, hX]; rfl) (by simp only [AW7, simprocAttr, hX]) ?_ ?_
      · intro hb
        have hb := (badE_impl c i j).1 hb
        refine Run.nq ?_; refine Run.regionW hC (fun K hK => ?_); simp only [AW7, simprocAttr, hX]; (repeat (with_reducible refine And.intro ?_ ?_); exact vc0); refine hK _ ?_; clear hK K; refine Run.nq ?_
        refine Run.retW [2] (by decide) (by rw [hfn]; rfl) (by simp only [AW7, simprocAttr, hX]; rfl) (by simp only [AW7, simprocAttr, hX]) (hfin _ _ rfl rfl ?_)
        refine ⟨?_, rfl⟩
        rw [isC_false fun h => h.2.2.2 i j hc2 hc3 hb]
      · intro hb
        have hb : ¬ badE c i j := fun h => by
          have := (badE_impl c i j).2 h
          rw [this] at hb
          cases hb
        refine Run.nq ?_; refine Run.regionW hC (fun K hK => ?_); simp (disch := omega) only [wrap_id, AW7, simprocAttr, hX]; (repeat (with_reducible refine And.intro ?_ ?_); exact vc0); refine hK _ ?_; clear hK K; refine Run.nq ?_
        refine Run.le ?_ (ihj (j + 1) ⟨hc3, fun q hq => ?_⟩ (by omega))
        · exact Le.sub (by simp only [AW7, simprocAttr]) (by simp only [AW7, simprocAttr, Option.some.injEq, Prod.mk.injEq, Sl.v.injEq, AV.int.injEq, AV.own.injEq, AV.bool.injEq]; try (repeat' apply And.intro); all_goals omega)
        · rcases Nat.lt_succ_iff_lt_or_eq.1 hq with h | rfl
          · exact hcj q h
          · exact hb
    · intro hc3
      have hc3 : j = c.length := by simp at hc3; omega
      subst hc3
      refine Run.exit rfl ?_; refine Run.nq ?_
      refine Run.nq ?_; refine Run.regionW hC (fun K hK => ?_); simp (disch := omega) only [wrap_id, AW7, simprocAttr, hX]; (repeat (with_reducible refine And.intro ?_ ?_); exact vc0); refine hK _ ?_; clear hK K; refine Run.nq ?_
      refine Run.le ?_ (ih (i + 1) ⟨hc2, fun k q hk hq => ?_⟩ (by omega))
      · exact Le.sub (by simp only [AW7, simprocAttr]) (by simp only [AW7, simprocAttr, Option.some.injEq, Prod.mk.injEq, Sl.v.injEq, AV.int.injEq, AV.own.injEq, AV.bool.injEq]; try (repeat' apply And.intro); all_goals omega)
      · rcases Nat.lt_succ_iff_lt_or_eq.1 hk with h | rfl
        · exact hcel k q h hq
        · exact hcj q hq
  · intro hc2
    have hc2 : i = c.length := by simp at hc2; omega
    subst hc2
    refine Run.exit rfl ?_; refine Run.nq ?_
    refine Run.nq ?_; refine Run.regionW hC (fun K hK => ?_); simp only [AW7, simprocAttr, hX]; (repeat (with_reducible refine And.intro ?_ ?_); exact vc0); refine hK _ ?_; clear hK K; refine Run.nq ?_
    refine Run.retW [2] (by decide) (by rw [hfn]; rfl) (by simp only [AW7, simprocAttr, hX]; rfl) (by simp only [AW7, simprocAttr, hX]) (hfin _ _ rfl rfl ?_)
    refine ⟨?_, rfl⟩
    rw [isC_true ⟨hn.1, hn.2, hrow, fun k q hk hq => hcel k q hk hq⟩]
def inB (x lo hi : Int) : Bool := bif decide (x ≥ lo) then decide (x ≤ hi) else false
theorem inB_iff {x lo hi : Int} : inB x lo hi = true ↔ lo ≤ x ∧ x ≤ hi := by
  unfold inB
  by_cases h : x ≥ lo <;> simp [h] <;> omega
theorem c_spec_l1In (x lo hi : Int) : FunA B 109 [.int .i64 x, .int .i64 lo, .int .i64 hi] (fun rs o => rs = [.bool (inB x lo hi)] ∧ o = []) := by
  refine FunA.walk B_ok (fn := Tryz.f109) (fun vs w => Tryz.call109 vs w) Tryz.func109 rfl (by rw [Tryz.ntmps109]; simp) (fun C hC hP hT hΓ hbt hfn hpin hfin => ?_); have hX := BX; rw [← hΓ, ← hbt.1, ← hbt.2] at hX; rw [Tryz.ntmps109]; simp only [AW7, simprocAttr, hX]
  refine Run.nq ?_; refine Run.regionW hC (fun K hK => ?_); simp only [AW7, simprocAttr, hX]; (repeat (with_reducible refine And.intro ?_ ?_); exact vc0); refine hK _ ?_; clear hK K; refine Run.nq ?_
  refine Run.nq ?_; refine Run.regionW hC (fun K hK => ?_); simp only [AW7, simprocAttr, hX]; (repeat (with_reducible refine And.intro ?_ ?_); exact vc0); refine hK _ ?_; clear hK K; refine Run.nq ?_
  refine Run.retW [6] (by decide) (by rw [hfn]; rfl) (by simp only [AW7, simprocAttr, hX]; rfl) (by simp only [AW7, simprocAttr, hX]) (hfin _ _ rfl rfl ?_)
  exact ⟨rfl, rfl⟩
theorem badE_spec (c : List (List Int)) (i j : Nat) : (bif bif (i : Int) == (j : Int) then ent c i j != 2 else false then true
                else
                  bif (i : Int) != (j : Int) then
                    bif !inB (ent c i j) (-3) 0 then true
                    else (ent c i j == 0) != (ent c j i == 0)
                  else false) = true ↔ badE c i j := by
  rw [← badE_impl]
  have : (!inB (ent c i j) (-3) 0) = (bif decide (ent c i j < -3) then true else decide (0 < ent c i j)) := by
    generalize ent c i j = x
    unfold inB
    by_cases h1 : x < -3
    · have : ¬ x ≥ -3 := by omega
      simp [h1, this]
    · have : x ≥ -3 := by omega
      by_cases h2 : 0 < x
      · have h3 : ¬ x ≤ 0 := by omega
        simp [h1, this, h2, h3]
      · have h3 : x ≤ 0 := by omega
        simp [h1, this, h2, h3]
  rw [this]
theorem c_spec_IsCartan (c : List (List Int)) : FunA B 110 [.sl false (.row false) c] (fun rs o => rs = [.bool (isC c)] ∧ o = []) := by
  refine FunA.walk B_ok (fn := Tryz.f110) (fun vs w => Tryz.call110 vs w) Tryz.func110 rfl (by rw [Tryz.ntmps110]; simp) (fun C hC hP hT hΓ hbt hfn hpin hfin => ?_); have hX := BX; rw [← hΓ, ← hbt.1, ← hbt.2] at hX; rw [Tryz.ntmps110]; simp only [AW7, simprocAttr, hX]
  refine Run.len 0 rfl fun hlen => ?_
  refine Run.nq ?_; refine Run.regionW hC (fun K hK => ?_); simp only [AW7, simprocAttr, hX]; (repeat (with_reducible refine And.intro ?_ ?_); exact vc0); refine hK _ ?_; clear hK K; refine Run.nq ?_
  refine Run.nq ?_; refine Run.regionW hC (fun K hK => ?_); simp only [AW7, simprocAttr, hX]; (repeat (with_reducible refine And.intro ?_ ?_); exact vc0); refine hK _ ?_; clear hK K; refine Run.nq ?_
  refine Run.loopI (X := Nat) (fun i => ⟨83, [(0, true, .v (.sl false (.row false) c)), (2, true, .v (.bool false)), (3, true, .v (.int .i64 i))], []⟩) (fun i => i ≤ c.length ∧ ∀ k, k < i → (c.getD k []).length = c.length) (fun i => c.length - i) 0 ⟨Nat.zero_le _, by omega⟩ ?_ ?_
  · exact Le.sub (by simp only [AW7, simprocAttr]) (by simp only [AW7, simprocAttr]; try simp)
  rintro i ⟨hi, hrow⟩ ih
  refine Run.nq ?_; refine Run.regionW hC (fun K hK => ?_); simp only [AW7, simprocAttr, hX]; (repeat (with_reducible refine And.intro ?_ ?_); exact vc0); refine hK _ ?_; clear hK K; refine Run.nq ?_
  refine Run.nq ?_; refine Run.condW (by simp only [AW7, simprocAttr, hX]; rfl) (by simp only [AW7, simprocAttr, hX]) ?_ ?_
  · intro hc2
    have hc2 : i < c.length := by simpa using hc2
    refine Run.nq ?_; refine Run.regionW hC (fun K hK => ?_); simp only [AW7, simprocAttr, hX]; (repeat (with_reducible refine And.intro ?_ ?_); exact vc0); refine hK _ ?_; clear hK K; refine Run.nq ?_
    refine Run.nq ?_; refine Run.condW (by simp only [AW7, simprocAttr, hX]; rfl) (by simp only [AW7, simprocAttr, hX]) ?_ ?_
    · intro hne
      refine Run.nq ?_; refine Run.regionW hC (fun K hK => ?_); simp only [AW7, simprocAttr, hX]; (repeat (with_reducible refine And.intro ?_ ?_); exact vc0); refine hK _ ?_; clear hK K; refine Run.nq ?_
      refine Run.retW [2] (by decide) (by rw [hfn]; rfl) (by simp only [AW7, simprocAttr, hX]; rfl) (by simp only [AW7, simprocAttr, hX]) (hfin _ _ rfl rfl ?_)
      refine ⟨?_, rfl⟩
      rw [isC_false fun h => ?_]
      have := h.2.2.1 i hc2
      have hne : ¬ (c.getD i []).length = c.length := by simp [-List.getD_eq_getElem?_getD] at hne; omega
      exact hne this
    · intro heq
      have heq : (c.getD i []).length = c.length := by simp [-List.getD_eq_getElem?_getD] at heq; omega
      refine Run.nq ?_; refine Run.regionW hC (fun K hK => ?_); simp (disch := omega) only [wrap_id, AW7, simprocAttr, hX]; (repeat (with_reducible refine And.intro ?_ ?_); exact vc0); refine hK _ ?_; clear hK K; refine Run.nq ?_
      refine Run.le ?_ (ih (i + 1) ⟨hc2, fun k hk => ?_⟩ (by omega))
      · exact Le.sub (by simp only [AW7, simprocAttr]) (by simp only [AW7, simprocAttr, Option.some.injEq, Prod.mk.injEq, Sl.v.injEq, AV.int.injEq, AV.own.injEq, AV.bool.injEq]; try (repeat' apply And.intro); all_goals omega)
      · rcases Nat.lt_succ_iff_lt_or_eq.1 hk with h | rfl
        · exact hrow k h
        · exact heq
  intro hc2
  have hc2 : i = c.length := by simp at hc2; omega
  subst hc2
  refine Run.exit rfl ?_; refine Run.nq ?_
  refine Run.nq ?_; refine Run.regionW hC (fun K hK => ?_); simp only [AW7, simprocAttr, hX]; (repeat (with_reducible refine And.intro ?_ ?_); exact vc0); refine hK _ ?_; clear hK K; refine Run.nq ?_
  refine Run.keep [0, 2, 4] ?_; simp only [AK, Nat.reduceBEq]
  refine Run.loopI (X := Nat) (fun i => ⟨83, [(0, true, .v (.sl false (.row false) c)), (2, true, .v (.bool false)), (4, true, .v (.int .i64 i))], []⟩) (fun i => i ≤ c.length ∧ ∀ k j, k < i → j < c.length → ¬ badE c k j) (fun i => c.length - i) 0 ⟨Nat.zero_le _, by omega⟩ ?_ ?_
  · exact Le.sub (by simp only [AW7, simprocAttr]) (by simp only [AW7, simprocAttr]; try simp)
  clear ih
  rintro i ⟨hi, hcel⟩ ih
  refine Run.nq ?_; refine Run.regionW hC (fun K hK => ?_); simp only [AW7, simprocAttr, hX]; (repeat (with_reducible refine And.intro ?_ ?_); exact vc0); refine hK _ ?_; clear hK K; refine Run.nq ?_
  refine Run.nq ?_; refine Run.condW (by simp only [AW7, simprocAttr, hX]; rfl) (by simp only [AW7, simprocAttr, hX]) ?_ ?_
  · intro hc2
    have hc2 : i < c.length := by simpa using hc2
    have hri := hrow i hc2
    refine Run.nq ?_; refine Run.regionW hC (fun K hK => ?_); simp only [AW7, simprocAttr, hX]; (repeat (with_reducible refine And.intro ?_ ?_); exact vc0); refine hK _ ?_; clear hK K; refine Run.nq ?_
    refine Run.keep [0, 2, 4, 5] ?_; simp only [AK, Nat.reduceBEq]
    refine Run.loopI (X := Nat) (fun j => ⟨83, [(0, true, .v (.sl false (.row false) c)), (2, true, .v (.bool false)), (4, true, .v (.int .i64 i)), (5, true, .v (.int .i64 j))], []⟩) (fun j => j ≤ c.length ∧ ∀ q, q < j → ¬ badE c i q) (fun j => c.length - j) 0 ⟨Nat.zero_le _, by omega⟩ ?_ ?_
    · exact Le.sub (by simp only [AW7, simprocAttr]) (by simp only [AW7, simprocAttr]; try simp)
    rintro j ⟨hj, hcj⟩ ihj
    refine Run.nq ?_; refine Run.regionW hC (fun K hK => ?_); simp only [AW7, simprocAttr, hX]; (repeat (with_reducible refine And.intro ?_ ?_); exact vc0); refine hK _ ?_; clear hK K; refine Run.nq ?_
    refine Run.nq ?_; refine Run.condW (by simp only [AW7, simprocAttr, hX]; rfl) (by simp only [AW7, simprocAttr, hX]) ?_ ?_
    · intro hc3
      have hc3 : j < c.length := by simpa using hc3
      have hrj := hrow j hc3
      refine Run.keep [0, 2, 4, 5] ?_; simp only [AK, Nat.reduceBEq]
      refine Run.nq ?_
      refine Run.regionD hC true [0,1,2,3,4,5,6,7,8,9,10,11,12,13,14,15,16,17,18,19,20,21,22,23,24,25,26,27,28,29,30,31,32,33,34,35,36,37,38,39,40,41,42,43,44,45,46,47] (by kernel_rfl) (fun K hK => ?_)
      simp only [AW7, simprocAttr, hX]
      (repeat (with_reducible refine And.intro ?_ ?_); exact vc0)
      refine .inl (FunA.callG hP hT (c_spec_l1In (ent c i j) (-3) 0) (fun _ => rfl) (fun _ => by simp only [AW7, simprocAttr]) ?_)
      (try simp only [AW7, simprocAttr, hX]); (repeat (with_reducible refine And.intro ?_ ?_); exact vc0)
      refine hK _ ?_
      clear hK K
      refine Run.nq ?_
      refine Run.nq ?_; refine Run.condW (by simp only [AW7, simprocAttr, hX]; rfl) (by simp only [AW7, simprocAttr, hX]) ?_ ?_
      · intro hb
        have hb := (badE_spec c i j).1 hb
        refine Run.nq ?_; refine Run.regionW hC (fun K hK => ?_); simp only [AW7, simprocAttr, hX]; (repeat (with_reducible refine And.intro ?_ ?_); exact vc0); refine hK _ ?_; clear hK K; refine Run.nq ?_
        refine Run.retW [2] (by decide) (by rw [hfn]; rfl) (by simp only [AW7, simprocAttr, hX]; rfl) (by simp only [AW7, simprocAttr, hX]) (hfin _ _ rfl rfl ?_)
        refine ⟨?_, rfl⟩
        rw [isC_false fun h => h.2.2.2 i j hc2 hc3 hb]
      · intro hb
        have hb : ¬ badE c i j := fun h => by
          have := (badE_spec c i j).2 h
          rw [this] at hb
          cases hb
        refine Run.keep [0, 2, 4, 5] ?_; simp only [AK, Nat.reduceBEq]
        refine Run.nq ?_; refine Run.regionW hC (fun K hK => ?_); simp (disch := omega) only [wrap_id, AW7, simprocAttr, hX]; (repeat (with_reducible refine And.intro ?_ ?_); exact vc0); refine hK _ ?_; clear hK K; refine Run.nq ?_
        refine Run.le ?_ (ihj (j + 1) ⟨hc3, fun q hq => ?_⟩ (by omega))
        · exact Le.sub (by simp only [AW7, simprocAttr]) (by simp only [AW7, simprocAttr, Option.some.injEq, Prod.mk.injEq, Sl.v.injEq, AV.int.injEq, AV.own.injEq, AV.bool.injEq]; try (repeat' apply And.intro); all_goals omega)
        · rcases Nat.lt_succ_iff_lt_or_eq.1 hq with h | rfl
          · exact hcj q h
          · exact hb
    · intro hc3
      have hc3 : j = c.length := by simp at hc3; omega
      subst hc3
      refine Run.exit rfl ?_; refine Run.nq ?_
      refine Run.nq ?_; refine Run.regionW hC (fun K hK => ?_); simp (disch := omega) only [wrap_id, AW7, simprocAttr, hX]; (repeat (with_reducible refine And.intro ?_ ?_); exact vc0); refine hK _ ?_; clear hK K; refine Run.nq ?_
      refine Run.le ?_ (ih (i + 1) ⟨hc2, fun k q hk hq => ?_⟩ (by omega))
      · exact Le.sub (by simp only [AW7, simprocAttr]) (by simp only [AW7, simprocAttr, Option.some.injEq, Prod.mk.injEq, Sl.v.injEq, AV.int.injEq, AV.own.injEq, AV.bool.injEq]; try (repeat' apply And.intro); all_goals omega)
      · rcases Nat.lt_succ_iff_lt_or_eq.1 hk with h | rfl
        · exact hcel k q h hq
        · exact hcj q hq
  · intro hc2
    have hc2 : i = c.length := by simp at hc2; omega
    subst hc2
    refine Run.exit rfl ?_; refine Run.nq ?_
    refine Run.nq ?_; refine Run.regionW hC (fun K hK => ?_); simp only [AW7, simprocAttr, hX]; (repeat (with_reducible refine And.intro ?_ ?_); exact vc0)
    refine FunA.callW hP hT (c_spec_l1In (c.length : Int) 1 4) (by simp only [AW7, simprocAttr]) ?_
    rintro rs o ⟨rfl, rfl⟩
    (try simp only [AW7, simprocAttr, hX]); (repeat (with_reducible refine And.intro ?_ ?_); exact vc0)
    (repeat (with_reducible refine And.intro ?_ ?_); exact vc0); refine hK _ ?_; clear hK K; refine Run.nq ?_
    refine Run.retW [2] (by decide) (by rw [hfn]; rfl) (by simp only [AW7, simprocAttr, hX]; rfl) (by simp only [AW7, simprocAttr, hX]) (hfin _ _ rfl rfl ?_)
    refine ⟨?_, rfl⟩
    have : isC c = inB c.length 1 4 := by
      rw [Bool.eq_iff_iff, isC_iff, inB_iff]
      constructor
      · intro h; have h1 := h.1; have h2 := h.2.1; omega
      · intro h; exact ⟨by omega, by omega, hrow, fun k q hk hq => hcel k q hk hq⟩
    rw [this]
end Go.Proofs.YtojcdgdbffmlpaaGreat

/- Roots put into an ordered list; the inversions of an element, and how many two elements share: the reference's functions. -/
import Derived.Test.YtcinngodeoidnaaGreatB12
import Derived.Test.YtcinngodeoidnaaGreatB14
import Derived.Test.YtcinngodeoidnaaGreatB11
import Derived.Test.YtcinngodeoidnaaGreatB10
import Derived.Test.YtcinngodeoidnaaGreatB13
set_option linter.unusedVariables false
set_option linter.unusedSimpArgs false
namespace Go.Proofs.YtcinngodeoidnaaGreat
open Go Go.Aw Go.Cox
def gtL : List Int → List Int → Bool
  | x :: a, y :: b => if x = y then gtL a b else decide (y < x)
  | _, _ => false
def befR (a b : List Int) : Bool := if hgt a = hgt b then gtL a b else decide (hgt a < hgt b)
theorem gtL_at : ∀ (a b : List Int) (i : Nat), i < a.length → i < b.length → a.take i = b.take i → a.getD i 0 ≠ b.getD i 0 → gtL a b = decide (b.getD i 0 < a.getD i 0)
  | [], _, i, h, _, _, _ => by simp at h
  | _ :: _, [], i, _, h, _, _ => by simp at h
  | x :: a, y :: b, 0, _, _, _, h => by
    simp at h
    simp [gtL, h]
  | x :: a, y :: b, i + 1, h1, h2, h3, h4 => by
    simp only [List.take_succ_cons, List.cons.injEq] at h3
    obtain ⟨rfl, h3⟩ := h3
    have ih := gtL_at a b i (by simpa using h1) (by simpa using h2) h3 (by simpa using h4)
    simp only [gtL, if_pos, List.getD_cons_succ]
    exact ih
theorem gtL_no : ∀ (a b : List Int) (i : Nat), i ≤ a.length → i ≤ b.length → a.take i = b.take i → (i = a.length ∨ i = b.length) → gtL a b = false
  | [], _, i, _, _, _, _ => by simp [gtL]
  | _ :: _, [], i, _, _, _, _ => by simp [gtL]
  | x :: a, y :: b, 0, _, _, _, h => by simp at h
  | x :: a, y :: b, i + 1, h1, h2, h3, h4 => by
    simp only [List.take_succ_cons, List.cons.injEq] at h3
    obtain ⟨rfl, h3⟩ := h3
    have ih := gtL_no a b i (by simpa using h1) (by simpa using h2) h3 (by simpa using h4)
    simp only [gtL, if_pos]
    exact ih
theorem c_spec_l7Before (a b : List Int) (ha : Bnd 1000000000000000000 a) (hb : Bnd 1000000000000000000 b) (hal : a.length ≤ 4) (hbl : b.length ≤ 4) : FunA B 150 [.sl false .int a, .sl false .int b] (fun rs o => rs = [.bool (befR a b)] ∧ o = []) := by
  refine FunA.walk B_ok (fn := Tryz.f150) (fun vs w => Tryz.call150 vs w) Tryz.func150 rfl (by rw [Tryz.ntmps150]; simp) (fun C hC hP hT hΓ hbt hfn hpin hfin => ?_); have hX := BX; rw [← hΓ, ← hbt.1, ← hbt.2.1, ← hbt.2.2.1, ← hbt.2.2.2.2] at hX; rw [hT] at hX; rw [Tryz.ntmps150]; simp only [AW7, simprocAttr, hX]
  refine Run.R ?_
  refine Run.nq ?_; refine Run.regionW hC (fun K hK => ?_); refine wW ?_
  refine FunA.cW hP hT (c_spec_HeightOf a ha hal) ?_
  rintro rs o ⟨rfl, rfl⟩
  refine wW ?_
  refine wE ?_; clear hK K
  refine Run.nq ?_; refine Run.regionW hC (fun K hK => ?_); refine wW ?_
  refine FunA.cW hP hT (c_spec_HeightOf b hb hbl) ?_
  rintro rs o ⟨rfl, rfl⟩
  refine wW ?_
  refine wE ?_; clear hK K
  refine Run.R ?_
  refine Run.nq ?_; refine Run.cW ?_ ?_
  · intro h
    have h : hgt a ≠ hgt b := by simpa using h
    refine Run.R ?_
    refine Run.rW [4] (hfin _ _ rfl rfl ?_)
    exact ⟨by simp [befR, h], rfl⟩
  intro h
  have h : hgt a = hgt b := by simpa using h
  have hbe : befR a b = gtL a b := by simp [befR, h]
  refine Run.R ?_
  refine Run.loopI (X := Nat) (fun i => ⟨48, [(0, true, .v (.sl false .int (a))), (1, true, .v (.sl false .int (b))), (7, true, .v (.int .i64 (i)))], []⟩) (fun i => i ≤ a.length ∧ i ≤ b.length ∧ a.take i = b.take i) (fun i => a.length - i) (0) (⟨Nat.zero_le _, Nat.zero_le _, rfl⟩) ?_ ?_
  · exact Le.sub (by first | rfl | simp) (by simp only [AW7, simprocAttr, hX]; try simp <;> try (first | rfl | exact ⟨rfl, rfl⟩ | exact ⟨rfl, rfl, rfl⟩))
  rintro i ⟨hi, hi2, ht⟩ ih
  try simp only []
  refine Run.R ?_
  refine Run.nq ?_; refine Run.cW ?_ ?_
  rotate_left
  · intro h2
    have h2 : i = a.length ∨ i = b.length := by
      by_cases h3 : i < a.length
      · by_cases h4 : i < b.length
        · rw [decide_eq_true (by omega : (i : Int) < a.length), decide_eq_true (by omega : (i : Int) < b.length)] at h2
          cases h2
        · omega
      · omega
    refine Run.exit rfl ?_; refine Run.nq ?_
    refine Run.R ?_
    refine Run.rW [4] (hfin _ _ rfl rfl ?_)
    exact ⟨by rw [hbe, gtL_no a b i hi hi2 ht h2], rfl⟩
  intro h2
  have h2 : i < a.length ∧ i < b.length := by
    by_cases h3 : i < a.length
    · by_cases h4 : i < b.length
      · exact ⟨h3, h4⟩
      · rw [decide_eq_true (by omega : (i : Int) < a.length), decide_eq_false (by omega : ¬ (i : Int) < b.length)] at h2
        cases h2
    · rw [decide_eq_false (by omega : ¬ (i : Int) < a.length)] at h2
      cases h2
  obtain ⟨h3, h4⟩ := h2
  refine Run.nq ?_; refine Run.regionD hC true [0,1,2,3,4,5,6,7,8] (by kernel_rfl) (fun K hK => ?_); simp only [AW7, simprocAttr, hX]; (repeat (with_reducible refine And.intro ?_ ?_); exact vc0)
  refine wE ?_; clear hK K
  refine Run.nq ?_; refine Run.cW ?_ ?_
  · intro h5
    have h5 : a.getD i 0 ≠ b.getD i 0 := by simpa using h5
    refine Run.nq ?_; refine Run.regionD hC true [0,1,2,3,4,5,6,7,8,9] (by kernel_rfl) (fun K hK => ?_); simp only [AW7, simprocAttr, hX]; (repeat (with_reducible refine And.intro ?_ ?_); exact vc0)
    refine wE ?_; clear hK K
    refine Run.rW [4] (hfin _ _ rfl rfl ?_)
    exact ⟨by rw [hbe, gtL_at a b i h3 h4 ht h5], rfl⟩
  intro h5
  have h5 : a.getD i 0 = b.getD i 0 := by simpa using h5
  refine Run.RW ?_
  refine Run.le ?_ (ih (i + 1) (⟨by omega, by omega, by rw [← take_snoc 0 a i h3, ← take_snoc 0 b i h4, ht, h5]⟩) (by (try simp only [List.length_append, List.length_cons, List.length_nil]); omega))
  exact Le.sub (by rfl) (by simp only [AW7, simprocAttr]; try simp)
def putR (w : List Int) : Bool → List (List Int) → List (List Int)
  | b, [] => if b then [] else [w]
  | b, x :: l => if b = false ∧ befR w x = true then w :: x :: putR w true l else x :: putR w b l
theorem putR_true (w : List Int) : ∀ l, putR w true l = l
  | [] => rfl
  | x :: l => by simp [putR, putR_true w l]
theorem putR_perm (w : List Int) : ∀ l, (putR w false l).Perm (w :: l)
  | [] => by simp [putR]
  | x :: l => by
    simp only [putR]
    split
    · rw [putR_true]
    · exact ((putR_perm w l).cons x).trans (.swap w x l)
def SmR (r : List Int) : Prop := r.length ≤ 4 ∧ Bnd 1000000000000000000 r
set_option maxHeartbeats 1000000 in
theorem c_spec_l7Put (ys : List (Nat × List Int)) (w : List Int) (hnd : (lb1 ys).Nodup) (hyl : ys.length ≤ 100000) (hw : SmR w) (hys : ∀ r ∈ rw2 ys, SmR r) (nn : Bool) :
    FunM B 111 [.own 0 0, .sl false .int w] .lrow ys nn (fun rs o => rs = [.own 1 0] ∧ ∃ ys', rw2 ys' = putR w false (rw2 ys) ∧ (lb1 ys').Nodup ∧ o = [.arr .lrow ys 0 nn, .arr .lrow ys' 0 true]) := by
  have hwl := hw.1
  refine FunM.walk B_ok (fn := Tryz.f111) (fun vs w => Tryz.call111 vs w) Tryz.func111 rfl (by rw [Tryz.ntmps111]; simp) (fun C hC hP hT hΓ hbt hfn hpin hfin => ?_); have hX := BX; rw [← hΓ, ← hbt.1, ← hbt.2.1, ← hbt.2.2.1, ← hbt.2.2.2.2] at hX; rw [hT] at hX; rw [Tryz.ntmps111]; simp only [AW7, simprocAttr, hX]
  refine Run.R ?_
  refine Run.R ?_
  refine Run.R ?_
  refine Run.R ?_
  refine Run.reKP hpin [0, 1, 5, 6, 7] [0, 1] rfl (by simp [oAt, gen0]) (by decide) (by simp) ?_; simp only [AR, AW7, simprocAttr]
  refine Run.loopI (X := List (Nat × List Int) × Bool × Nat) (fun x => ⟨47, [(0, true, .v (.own 0 0)), (1, true, .v (.sl false .int (w))), (5, true, .v (.own 1 0)), (6, true, .v (.bool (x.2.1))), (7, true, .v (.int .i64 (x.2.2)))], [.arr .lrow ys 0 nn, .arr .lrow (x.1) 0 true]⟩) (fun x => x.2.2 ≤ ys.length ∧ x.1.length ≤ 2 * x.2.2 ∧ rw2 x.1 ++ putR w x.2.1 (rw2 (ys.drop x.2.2)) = putR w false (rw2 ys) ∧ (lb1 x.1 ++ lb1 (ys.drop x.2.2)).Nodup) (fun x => ys.length - x.2.2) (([], false, 0)) (⟨Nat.zero_le _, by simp, rfl, hnd⟩) ?_ ?_
  · exact Le.sub (by first | rfl | simp) (by simp only [AW7, simprocAttr, hX]; try simp <;> try (first | rfl | exact ⟨rfl, rfl⟩ | exact ⟨rfl, rfl, rfl⟩))
  rintro ⟨zs, b, i⟩ ⟨hi, hzl, hE, hN⟩ ih
  try simp only []
  simp only [] at hi hzl hE hN
  refine Run.R ?_
  refine Run.nq ?_; refine Run.cW ?_ ?_
  rotate_left
  · intro h
    have hie : i = ys.length := by rw [decide_eq_false_iff_not] at h; omega
    refine Run.exit rfl ?_; refine Run.nq ?_
    refine Run.R ?_
    refine Run.nq ?_; refine Run.cW ?_ ?_
    · intro hb
      have hb : b = false := by simpa using hb
      subst hb
      refine Run.nq ?_; refine Run.regionW hC (fun K hK => ?_); refine wW ?_
      intro q hq
      have hN3 := lb_ins (w := w) hN (hq (.arr .lrow zs 0 true) (.tail _ (.head _)) _ _ _ rfl) (hq (.arr .lrow ys 0 nn) (.head _) _ _ _ rfl)
      rw [hie, List.drop_length] at hE hN3
      have e0 : lb1 ([] : List (Nat × List Int)) = [] := rfl
      rw [e0, List.append_nil] at hN3
      (repeat (with_reducible refine And.intro ?_ ?_); exact vc0)
      refine wE ?_; clear hK K
      refine Run.R ?_
      refine Run.reKP hpin [4] [0, 1] rfl (by simp [oAt, gen0]) (by decide) (by simp) ?_; simp only [AR, AW7, simprocAttr]
      refine Run.retW [4] (by decide) (by rw [hfn]; rfl) (by simp only [AW7, simprocAttr, hX]; rfl) (by simp only [AW7, simprocAttr, hX]) (hfin _ _ _ rfl rfl rfl ?_)
      exact ⟨rfl, _, by rw [← hE, rw2_app]; simp [putR, rw2], hN3, rfl⟩
    intro hb
    have hb : b = true := by simpa using hb
    subst hb
    refine Run.R ?_
    refine Run.reKP hpin [4] [0, 1] rfl (by simp [oAt, gen0]) (by decide) (by simp) ?_; simp only [AR, AW7, simprocAttr]
    rw [hie, List.drop_length] at hE hN
    have e0 : lb1 ([] : List (Nat × List Int)) = [] := rfl
    rw [e0, List.append_nil] at hN
    refine Run.retW [4] (by decide) (by rw [hfn]; rfl) (by simp only [AW7, simprocAttr, hX]; rfl) (by simp only [AW7, simprocAttr, hX]) (hfin _ _ _ rfl rfl rfl ?_)
    exact ⟨rfl, zs, by rw [← hE]; simp [putR, rw2], hN, rfl⟩
  intro h
  have h : i < ys.length := by rw [decide_eq_true_eq] at h; omega
  have hyi : SmR (ys.getD i (0, [])).2 := hys _ (by unfold rw2; rw [getD_eq h]; exact List.mem_map_of_mem (List.getElem_mem h))
  have hd : rw2 (ys.drop i) = (ys.getD i (0, [])).2 :: rw2 (ys.drop (i + 1)) := by rw [drop_cons' ys h]; rfl
  rw [hd] at hE
  simp only [putR] at hE
  have hN2 := lb_step h hN
  by_cases hlt : b = false ∧ befR w (ys.getD i (0, [])).2 = true
  · rw [if_pos hlt] at hE
    obtain ⟨rfl, hl1⟩ := hlt
    refine Run.nq ?_; refine Run.regionW hC (fun K hK => ?_); refine wW ?_
    refine .inr ⟨rfl, ?_⟩
    refine FunA.cW hP hT (c_spec_l7Before w (ys.getD i (0, [])).2 hw.2 hyi.2 hw.1 hyi.1) ?_
    rintro rs o ⟨rfl, rfl⟩
    rw [hl1]
    refine wW ?_
    refine wE ?_; clear hK K
    refine Run.nq ?_; refine Run.cW ?_ ?_
    rotate_left
    · intro h; cases h
    intro _
    refine Run.nq ?_; refine Run.regionW hC (fun K hK => ?_); refine wW ?_
    intro q hq
    have hN3 := lb_ins (w := w) hN (hq (.arr .lrow zs 0 true) (.tail _ (.head _)) _ _ _ rfl) (hq (.arr .lrow ys 0 nn) (.head _) _ _ _ rfl)
    (repeat (with_reducible refine And.intro ?_ ?_); exact vc0)
    refine wE ?_; clear hK K
    refine Run.R ?_
    refine Run.R ?_
    have hN4 := lb_step h hN3
    refine Run.reKP hpin [0, 1, 5, 6, 7] [0, 1] rfl (by simp [oAt, gen0]) (by decide) (by simp) ?_; simp only [AR, AW7, simprocAttr]
    refine Run.RW ?_
    refine Run.le ?_ (ih ((zs ++ [(q, w)] ++ [((ys.getD i (0, [])).1, (ys.getD i (0, [])).2)], true, i + 1)) (⟨h, by simp only [List.length_append, List.length_cons, List.length_nil]; omega, by rw [rw2_app, rw2_app, List.append_assoc, List.append_assoc, ← hE]; simp [rw2], hN4⟩) (by (try simp only [List.length_append, List.length_cons, List.length_nil]); omega))
    exact Le.sub (by rfl) (by simp only [AW7, simprocAttr]; try simp)
  rw [if_neg hlt] at hE
  cases b with
  | true =>
    refine Run.nq ?_; refine Run.regionW hC (fun K hK => ?_); refine wW ?_
    refine .inl (CallG.off (.bool false) ?_)
    refine wW ?_
    refine wE ?_; clear hK K
    refine Run.nq ?_; refine Run.cW ?_ ?_
    · intro h; cases h
    intro _
    refine Run.R ?_
    refine Run.reKP hpin [0, 1, 5, 6, 7] [0, 1] rfl (by simp [oAt, gen0]) (by decide) (by simp) ?_; simp only [AR, AW7, simprocAttr]
    refine Run.RW ?_
    refine Run.le ?_ (ih ((zs ++ [((ys.getD i (0, [])).1, (ys.getD i (0, [])).2)], true, i + 1)) (⟨h, by simp; omega, by rw [rw2_app, List.append_assoc, ← hE]; simp [rw2], hN2⟩) (by (try simp only [List.length_append, List.length_cons, List.length_nil]); omega))
    exact Le.sub (by rfl) (by simp only [AW7, simprocAttr]; try simp)
  | false =>
    have hl0 : befR w (ys.getD i (0, [])).2 = false := by simpa using hlt
    refine Run.nq ?_; refine Run.regionW hC (fun K hK => ?_); refine wW ?_
    refine .inr ⟨rfl, ?_⟩
    refine FunA.cW hP hT (c_spec_l7Before w (ys.getD i (0, [])).2 hw.2 hyi.2 hw.1 hyi.1) ?_
    rintro rs o ⟨rfl, rfl⟩
    rw [hl0]
    refine wW ?_
    refine wE ?_; clear hK K
    refine Run.nq ?_; refine Run.cW ?_ ?_
    · intro h; cases h
    intro _
    refine Run.R ?_
    refine Run.reKP hpin [0, 1, 5, 6, 7] [0, 1] rfl (by simp [oAt, gen0]) (by decide) (by simp) ?_; simp only [AR, AW7, simprocAttr]
    refine Run.RW ?_
    refine Run.le ?_ (ih ((zs ++ [((ys.getD i (0, [])).1, (ys.getD i (0, [])).2)], false, i + 1)) (⟨h, by simp; omega, by rw [rw2_app, List.append_assoc, ← hE]; simp [rw2], hN2⟩) (by (try simp only [List.length_append, List.length_cons, List.length_nil]); omega))
    exact Le.sub (by rfl) (by simp only [AW7, simprocAttr]; try simp)
end Go.Proofs.YtcinngodeoidnaaGreat
namespace Go.Proofs.YtcinngodeoidnaaGreat
open Go Go.Aw Go.Cox
theorem c_impl_pairing_w (a r : List Int) (hl : a.length = r.length) : FunA B 120 [.sl false .int a, .sl false .int r] (fun rs o => (∃ n, rs = [.int .i64 n]) ∧ o = []) := by
  refine FunA.walk B_ok (fn := Tryz.f120) (fun vs w => Tryz.call120 vs w) Tryz.func120 rfl (by rw [Tryz.ntmps120]; simp) (fun C hC hP hT hΓ hbt hfn hpin hfin => ?_); have hX := BX; rw [← hΓ, ← hbt.1, ← hbt.2.1, ← hbt.2.2.1, ← hbt.2.2.2.2] at hX; rw [hT] at hX; rw [Tryz.ntmps120]; simp only [AW7, simprocAttr, hX]
  refine Run.len 1 rfl fun hlen => ?_
  refine Run.R ?_
  refine Run.R ?_
  refine Run.R ?_
  refine Run.loopI (X := Nat × Int) (fun x => ⟨25, [(0, true, .v (.sl false .int (a))), (1, true, .v (.sl false .int (r))), (4, true, .v (.int .i64 (0))), (5, true, .v (.int .i64 (x.2))), (8, true, .v (.sl false .int (r))), (9, true, .v (.int .i64 (r.length))), (10, true, .v (.int .i64 (x.1)))], []⟩) (fun x => x.1 ≤ r.length) (fun x => r.length - x.1) ((0, 0)) (Nat.zero_le _) ?_ ?_
  · exact Le.sub (by first | rfl | simp) (by simp only [AW7, simprocAttr, hX]; try simp <;> try (first | rfl | exact ⟨rfl, rfl⟩ | exact ⟨rfl, rfl, rfl⟩))
  rintro ⟨k, s⟩ hk ih
  try simp only []
  simp only at hk
  refine Run.R ?_
  refine Run.nq ?_; refine Run.cW ?_ ?_
  · intro hc
    have hc : k < r.length := by simpa using hc
    refine Run.R ?_
    refine Run.R ?_
    refine Run.RW ?_
    refine Run.le ?_ (ih (k + 1, IntKind.i64.wrap (s + IntKind.i64.wrap (a.getD k 0 * r.getD k 0))) (by simp only; omega) (by simp only; omega))
    exact Le.sub (by rfl) (by simp only [AW7, simprocAttr]; try simp)
  · intro hc
    have hc : k = r.length := by simp at hc; omega
    subst hc
    refine Run.exit rfl ?_; refine Run.nq ?_
    refine Run.R ?_
    refine Run.rW [4] (hfin _ _ rfl rfl ?_)
    exact ⟨⟨_, rfl⟩, rfl⟩
theorem c_impl_mirrored_w (c : List (List Int)) (i : Int) (r : List Int) (hi : 0 ≤ i ∧ i < c.length) (hl : r.length = c.length) (hrow : (c.getD i.toNat []).length = c.length) (hc4 : c.length ≤ 4) :
    FunA B 72 [.sl false (.row false) c, .int .i64 i, .sl false .int r] (fun rs o => rs = [.own 0 0] ∧ ∃ ys : List Int, ys.length = r.length ∧ o = [.arr .int ys 0 true]) := by
  refine FunA.walk B_ok (fn := Tryz.f72) (fun vs w => Tryz.call72 vs w) Tryz.func72 rfl (by rw [Tryz.ntmps72]; simp) (fun C hC hP hT hΓ hbt hfn hpin hfin => ?_); have hX := BX; rw [← hΓ, ← hbt.1, ← hbt.2.1, ← hbt.2.2.1, ← hbt.2.2.2.2] at hX; rw [hT] at hX; rw [Tryz.ntmps72]; simp only [AW7, simprocAttr, hX]
  refine Run.R ?_
  refine Run.R ?_
  refine Run.reK hpin [0, 1, 2, 6, 7] [0] (by decide) (by simp) ?_; simp only [AR, AW7, simprocAttr]
  refine Run.nq ?_; refine Run.regionD hC true [0,1,2,3,4,5,6,7,8,9,10,11,12] (by kernel_rfl) (fun K hK => ?_); simp only [AW7, simprocAttr, hX]; (repeat (with_reducible refine And.intro ?_ ?_); exact vc0)
  refine FunA.callD hP hT (c_impl_pairing_w (c.getD i.toNat []) r (by omega)) (by simp only [AW7, simprocAttr]) ?_
  rintro rs o ⟨⟨n, rfl⟩, rfl⟩
  refine wW ?_
  refine wE ?_; clear hK K
  refine Run.R ?_
  refine Run.reK hpin [6] [0] (by decide) (by simp) ?_; simp only [AR, AW7, simprocAttr]
  refine Run.rW [6] (hfin _ _ rfl rfl ?_)
  exact ⟨rfl, _, by simp, rfl⟩
def cmpR (a b : List Int) : Int := if hgt a < hgt b then -1 else if hgt a > hgt b then 1 else cmpW b a
theorem gt_cmpN {a b : List Int} (hl : a.length = b.length) : ∀ (n i : Nat), i + n = a.length → (gtL (a.drop i) (b.drop i) = true ↔ cmpN b a n i < 0)
  | 0, i, h => by rw [List.drop_of_length_le (by omega), List.drop_of_length_le (by omega)]; simp [gtL, cmpN]
  | n + 1, i, h => by
    have h1 : i < a.length := by omega
    have h2 : i < b.length := by omega
    have ih := gt_cmpN hl n (i + 1) (by omega)
    rw [List.drop_eq_getElem_cons h1, List.drop_eq_getElem_cons h2]
    unfold gtL cmpN
    rw [getD_eq h1, getD_eq h2]
    by_cases e : a[i] = b[i]
    · rw [if_pos e, if_neg (by omega), if_neg (by omega)]; exact ih
    · rw [if_neg e, decide_eq_true_eq]
      split
      · omega
      · split <;> omega
theorem befR_cmp {a b : List Int} (hl : a.length = b.length) : befR a b = true ↔ cmpR a b < 0 := by
  unfold befR cmpR
  by_cases e : hgt a = hgt b
  · rw [if_pos e, if_neg (by omega), if_neg (by omega)]
    unfold cmpW
    rw [if_neg (by omega), if_neg (by omega), ← hl]
    exact gt_cmpN hl a.length 0 (by omega)
  · rw [if_neg e, decide_eq_true_eq]
    split
    · omega
    · split <;> omega
theorem cmpR_swo : Go.Sort.SWO (ltOf fun p q : List Int × List Int => cmpR p.1 q.1) := by
  refine ⟨fun x => ?_, fun x y z h1 h2 => ?_, fun x y z h1 h2 => ?_⟩
  · have : cmpR x.1 x.1 = 0 := by unfold cmpR; rw [if_neg (by omega), if_neg (by omega), cmpW_self]
    unfold ltOf; rw [decide_eq_false_iff_not]; show ¬ cmpR x.1 x.1 < 0; omega
  · unfold ltOf at *
    rw [decide_eq_true_eq] at *
    unfold cmpR at *
    dsimp only at h1 h2 ⊢
    split at h1
    · split at h2
      · rw [if_pos (by omega)]; omega
      · split at h2
        · omega
        · rw [if_pos (by omega)]; omega
    · split at h1
      · omega
      · split at h2
        · rw [if_pos (by omega)]; omega
        · split at h2
          · omega
          · rw [if_neg (by omega), if_neg (by omega)]; exact cmpW_lt_trans h2 h1
  · unfold ltOf at *
    rw [decide_eq_false_iff_not] at *
    unfold cmpR at *
    dsimp only at h1 h2 ⊢
    split at h1
    · omega
    · split at h1
      · split at h2
        · omega
        · split at h2
          · rw [if_neg (by omega), if_pos (by omega)]; omega
          · rw [if_neg (by omega), if_pos (by omega)]; omega
      · split at h2
        · omega
        · split at h2
          · rw [if_neg (by omega), if_pos (by omega)]; omega
          · rw [if_neg (by omega), if_neg (by omega)]
            have := cmpW_ge_trans (p := z.1) (q := y.1) (r := x.1) (by omega) (by omega)
            omega
theorem c_impl_compareRoots (a b : List Int) (ha : Bnd 1000000000000000000 a) (hb : Bnd 1000000000000000000 b) (h4 : a.length ≤ 4) (hl : a.length = b.length) :
    FunA B 149 [.sl false .int a, .sl false .int b] (fun rs o => rs = [.int .i64 (cmpR a b)] ∧ o = []) := by
  refine FunA.walk B_ok (fn := Tryz.f149) (fun vs w => Tryz.call149 vs w) Tryz.func149 rfl (by rw [Tryz.ntmps149]; simp) (fun C hC hP hT hΓ hbt hfn hpin hfin => ?_); have hX := BX; rw [← hΓ, ← hbt.1, ← hbt.2.1, ← hbt.2.2.1, ← hbt.2.2.2.2] at hX; rw [hT] at hX; rw [Tryz.ntmps149]; simp only [AW7, simprocAttr, hX]
  refine Run.R ?_
  refine Run.nq ?_; refine Run.regionW hC (fun K hK => ?_); refine wW ?_
  refine FunA.cW hP hT (c_impl_HeightOf a ha h4) ?_
  rintro rs o ⟨rfl, rfl⟩
  refine wW ?_
  refine FunA.cW hP hT (c_impl_HeightOf b hb (by omega)) ?_
  rintro rs o ⟨rfl, rfl⟩
  refine wW ?_
  refine FunA.cW hP hT (c_cmpCompare (hgt a) (hgt b)) ?_
  rintro rs o ⟨rfl, rfl⟩
  refine wW ?_
  refine FunA.cW hP hT (c_slicesCompare b a (by omega)) ?_
  rintro rs o ⟨⟨v, rfl, hv⟩, rfl⟩
  refine wW ?_
  refine FunA.cW hP hT (c_cmpOr [cmpI (hgt a) (hgt b), v] (by simp)) ?_
  rintro rs o ⟨rfl, rfl⟩
  refine wW ?_
  refine wE ?_; clear hK K
  have e : orL [cmpI (hgt a) (hgt b), v] = cmpR a b := by
    have hv' : v = cmpW b a := by rw [hv (by omega)]; unfold cmpW; rw [if_neg (by omega), if_neg (by omega)]
    simp only [orL]
    unfold cmpI cmpR
    by_cases k1 : hgt a < hgt b
    · rw [if_pos k1, if_pos k1]; rfl
    · by_cases k2 : hgt a > hgt b
      · rw [if_neg k1, if_pos k2, if_neg k1, if_pos k2]; rfl
      · rw [if_neg k1, if_neg k2, if_neg k1, if_neg k2, if_pos rfl, ← hv']
        split
        · rename_i h; exact h.symm
        · rfl
  refine Run.reK hpin [4] [] (by decide) (by simp) ?_; simp only [AR, AW7, simprocAttr]
  refine Run.rW [4] (hfin _ _ rfl rfl ?_)
  rw [e]; exact ⟨rfl, rfl⟩
def kR (r : List Int) : List Int := r.take 4 ++ [0, 0, 0, 0].drop r.length
def mlR (L : List (List Int)) : List (MK × MV) := L.map fun r => (MK.vec (kR r), MV.bool true)
theorem kR_inj {a b : List Int} (h4 : b.length ≤ 4) (hl : a.length = b.length) (h : kR a = kR b) : a = b := by
  unfold kR at h
  rw [List.take_of_length_le (by omega), List.take_of_length_le h4, hl] at h
  exact List.append_cancel_right h
theorem mlR_find {r : List Int} (h4 : r.length ≤ 4) : ∀ (L : List (List Int)) (i : Nat), (∀ z ∈ L, z.length = r.length) → (r ∈ L → ∃ j, mfindI (mlR L) (.vec (kR r)) i = some (j, .bool true)) ∧ (r ∉ L → mfindI (mlR L) (.vec (kR r)) i = none)
  | [], i, _ => ⟨fun h => by simp at h, fun _ => rfl⟩
  | z :: L, i, h => by
    have ih := mlR_find h4 L (i + 1) fun y hy => h y (List.mem_cons_of_mem _ hy)
    show (_ → ∃ j, (if (MK.vec (kR r)) = MK.vec (kR z) then some (i, MV.bool true) else mfindI (mlR L) (.vec (kR r)) (i + 1)) = _) ∧ (_ → (if (MK.vec (kR r)) = MK.vec (kR z) then some (i, MV.bool true) else mfindI (mlR L) (.vec (kR r)) (i + 1)) = none)
    by_cases e : r = z
    · subst e
      rw [if_pos rfl]
      exact ⟨fun _ => ⟨i, rfl⟩, fun hn => absurd (List.mem_cons_self ..) hn⟩
    · have hne : ¬ MK.vec (kR r) = MK.vec (kR z) := fun hk => e (kR_inj (by rw [h z (List.mem_cons_self ..)]; exact h4) (h z (List.mem_cons_self ..)).symm (MK.vec.inj hk))
      rw [if_neg hne]
      refine ⟨fun hm => ih.1 ?_, fun hn => ih.2 fun hm => hn (List.mem_cons_of_mem _ hm)⟩
      rcases List.mem_cons.1 hm with hm | hm
      · exact absurd hm e
      · exact hm
theorem mlR_get {r : List Int} (h4 : r.length ≤ 4) {L : List (List Int)} (h : ∀ z ∈ L, z.length = r.length) : mgetB (mlR L) (.vec (kR r)) = decide (r ∈ L) := by
  unfold mgetB mfind
  by_cases hm : r ∈ L
  · obtain ⟨j, e⟩ := (mlR_find h4 L 0 h).1 hm
    rw [e, decide_eq_true hm]; rfl
  · rw [(mlR_find h4 L 0 h).2 hm, decide_eq_false hm]; rfl
theorem mlR_put {r : List Int} (h4 : r.length ≤ 4) {L : List (List Int)} (h : ∀ z ∈ L, z.length = r.length) (hm : r ∉ L) : mput (mlR L) (.vec (kR r)) (.bool true) = mlR (L ++ [r]) := by
  unfold mput
  rw [(mlR_find h4 L 0 h).2 hm]
  simp [mlR]
def addX (H : Int) (xs : List (List Int × List Int)) (p : List Int × List Int) : List (List Int × List Int) := if p.1 ∉ xs.map (·.1) ∧ sgnR p.1 = 1 ∧ hgt p.1 ≤ H then xs ++ [p] else xs
end Go.Proofs.YtcinngodeoidnaaGreat
namespace Go.Proofs.YtcinngodeoidnaaGreat
open Go Go.Aw Go.Cox
theorem gtL_irr : ∀ a : List Int, gtL a a = false
  | [] => rfl
  | x :: a => by unfold gtL; rw [if_pos rfl]; exact gtL_irr a
theorem gtL_trans : ∀ {a b d : List Int}, gtL a b = true → gtL b d = true → gtL a d = true
  | [], _, _, h, _ => by unfold gtL at h; cases h
  | x :: a, [], _, h, _ => by unfold gtL at h; cases h
  | x :: a, y :: b, [], _, h => by unfold gtL at h; cases h
  | x :: a, y :: b, z :: d, h1, h2 => by
    unfold gtL at h1 h2 ⊢
    by_cases e1 : x = y
    · subst e1
      rw [if_pos rfl] at h1
      by_cases e2 : x = z
      · subst e2; rw [if_pos rfl] at h2 ⊢; exact gtL_trans h1 h2
      · rw [if_neg e2] at h2 ⊢; exact h2
    · rw [if_neg e1] at h1
      by_cases e2 : y = z
      · subst e2; rw [if_neg e1]; exact h1
      · rw [if_neg e2] at h2
        rw [decide_eq_true_eq] at h1 h2
        rw [if_neg (by omega), decide_eq_true_eq]; omega
theorem gtL_total : ∀ {a b : List Int}, a.length = b.length → a ≠ b → gtL a b = true ∨ gtL b a = true
  | [], [], _, h => absurd rfl h
  | [], y :: b, h, _ => by simp at h
  | x :: a, [], h, _ => by simp at h
  | x :: a, y :: b, hl, h => by
    unfold gtL
    by_cases e : x = y
    · subst e
      rw [if_pos rfl, if_pos rfl]
      exact gtL_total (by simpa using hl) (fun e => h (by rw [e]))
    · rw [if_neg e, if_neg (Ne.symm e), decide_eq_true_eq, decide_eq_true_eq]; omega
theorem befR_irr (a : List Int) : befR a a = false := by unfold befR; rw [if_pos rfl]; exact gtL_irr a
theorem befR_trans {a b d : List Int} (h1 : befR a b = true) (h2 : befR b d = true) : befR a d = true := by
  unfold befR at h1 h2 ⊢
  by_cases e1 : hgt a = hgt b
  · rw [if_pos e1] at h1
    by_cases e2 : hgt b = hgt d
    · rw [if_pos e2] at h2; rw [if_pos (e1.trans e2)]; exact gtL_trans h1 h2
    · rw [if_neg e2] at h2; rw [if_neg (by omega), e1]; exact h2
  · rw [if_neg e1] at h1
    rw [decide_eq_true_eq] at h1
    by_cases e2 : hgt b = hgt d
    · rw [if_neg (by omega), decide_eq_true_eq]; omega
    · rw [if_neg e2, decide_eq_true_eq] at h2
      rw [if_neg (by omega), decide_eq_true_eq]; omega
theorem befR_total {a b : List Int} (hl : a.length = b.length) (h : a ≠ b) : befR a b = true ∨ befR b a = true := by
  unfold befR
  by_cases e : hgt a = hgt b
  · rw [if_pos e, if_pos e.symm]; exact gtL_total hl h
  · rw [if_neg e, if_neg (Ne.symm e), decide_eq_true_eq, decide_eq_true_eq]; omega
def StrR (l : List (List Int)) : Prop := l.Pairwise fun p q => befR p q = true
theorem strR_ext : ∀ {a b : List (List Int)}, StrR a → StrR b → (∀ x, x ∈ a ↔ x ∈ b) → a = b
  | [], [], _, _, _ => rfl
  | [], y :: b, _, _, h => absurd ((h y).2 (List.mem_cons_self ..)) (by simp)
  | x :: a, [], _, _, h => absurd ((h x).1 (List.mem_cons_self ..)) (by simp)
  | x :: a, y :: b, ha, hb, h => by
    obtain ⟨a1, a2⟩ := List.pairwise_cons.1 ha
    obtain ⟨b1, b2⟩ := List.pairwise_cons.1 hb
    have hxy : x = y := by
      rcases List.mem_cons.1 ((h x).1 (List.mem_cons_self ..)) with e | e
      · exact e
      · rcases List.mem_cons.1 ((h y).2 (List.mem_cons_self ..)) with e2 | e2
        · exact e2.symm
        · have := befR_trans (b1 x e) (a1 y e2)
          rw [befR_irr] at this; cases this
    subst hxy
    have hx : ∀ {l : List (List Int)}, (∀ z ∈ l, befR x z = true) → x ∉ l := fun h hm => by have := h x hm; rw [befR_irr] at this; cases this
    rw [strR_ext a2 b2 fun z => ?_]
    constructor
    · intro hz
      rcases List.mem_cons.1 ((h z).1 (List.mem_cons_of_mem _ hz)) with e | e
      · subst e; exact absurd hz (hx a1)
      · exact e
    · intro hz
      rcases List.mem_cons.1 ((h z).2 (List.mem_cons_of_mem _ hz)) with e | e
      · subst e; exact absurd hz (hx b1)
      · exact e
theorem strR_nodup {l : List (List Int)} (h : StrR l) : l.Nodup := List.Pairwise.imp (fun {a b} h e => by rw [e, befR_irr] at h; cases h) h
theorem putR_mem (w : List Int) (l : List (List Int)) (x : List Int) : x ∈ putR w false l ↔ x = w ∨ x ∈ l := by
  rw [(putR_perm w l).mem_iff, List.mem_cons]
theorem putR_str {w : List Int} {n : Nat} (hw : w.length = n) : ∀ {l : List (List Int)}, StrR l → w ∉ l → (∀ x ∈ l, x.length = n) → StrR (putR w false l)
  | [], _, _, _ => by unfold StrR; simp [putR]
  | x :: l, h, hn, hl => by
    obtain ⟨h1, h2⟩ := List.pairwise_cons.1 h
    simp only [putR]
    split
    · rename_i hb
      rw [putR_true]
      exact List.pairwise_cons.2 ⟨fun z hz => by
        rcases List.mem_cons.1 hz with rfl | hz
        · exact hb.2
        · exact befR_trans hb.2 (h1 z hz), h⟩
    · rename_i hb
      have hxw : befR x w = true := by
        rcases befR_total (a := x) (b := w) (by rw [hl x (List.mem_cons_self ..), hw]) (fun e => hn (by rw [e]; exact List.mem_cons_self ..)) with h3 | h3
        · exact h3
        · exact absurd (by simp [h3]) hb
      refine List.pairwise_cons.2 ⟨fun z hz => ?_, putR_str hw h2 (fun hm => hn (List.mem_cons_of_mem _ hm)) (fun z hz => hl z (List.mem_cons_of_mem _ hz))⟩
      rcases (putR_mem w l z).1 hz with rfl | hz
      · exact hxw
      · exact h1 z hz
theorem putR_keep {w : List Int} : ∀ {l : List (List Int)} {k : Nat}, k < l.length → (∀ j, j ≤ k → befR w (l.getD j []) = false) → ∀ j, j ≤ k → (putR w false l).getD j [] = l.getD j []
  | [], k, hk, _, _, _ => by simp at hk
  | x :: l, k, hk, h, j, hj => by
    have h0 := h 0 (by omega)
    simp only [List.getD_cons_zero] at h0
    simp only [putR]
    rw [if_neg (by rw [h0]; simp)]
    match j, k, hk, h, hj with
    | 0, _, _, _, _ => rfl
    | j + 1, k + 1, hk, h, hj =>
      simp only [List.getD_cons_succ]
      exact putR_keep (k := k) (by simpa using hk) (fun i hi => by have := h (i + 1) (by omega); simpa using this) j (by omega)
inductive RS (c : List (List Int)) (h : Int) : List Int → Prop
  | sim (i : Nat) : i < c.length → RS c h (simL c.length i)
  | up (r : List Int) (i : Nat) : RS c h r → i < c.length → sgnR (mirL c i r) = 1 → hgt (mirL c i r) ≤ h → hgt r < hgt (mirL c i r) → RS c h (mirL c i r)
theorem hgt_sum : ∀ (r : List Int), (∀ x ∈ r, 0 ≤ x) → ∀ x ∈ r, x ≤ hgt r
  | [], _, x, hx => by cases hx
  | y :: r, h, x, hx => by
    have h0 := h y (List.mem_cons_self ..)
    have hr : ∀ z ∈ r, 0 ≤ z := fun z hz => h z (List.mem_cons_of_mem _ hz)
    have hn : ∀ (r : List Int), (∀ x ∈ r, 0 ≤ x) → 0 ≤ hgt r := by
      intro r
      induction r with
      | nil => intro _; exact Int.le_refl 0
      | cons z r ih =>
        intro h
        have := ih fun x hx => h x (List.mem_cons_of_mem _ hx)
        have := h z (List.mem_cons_self ..)
        show 0 ≤ z + hgt r
        omega
    show x ≤ y + hgt r
    rcases List.mem_cons.1 hx with rfl | hx
    · have := hn r hr; omega
    · have := hgt_sum r hr x hx; omega
theorem sgn_nn {r : List Int} (h : sgnR r = 1) : ∀ x ∈ r, 0 ≤ x := by
  intro x hx
  have h1 := (sgnR_one.1 h).2
  unfold negA at h1
  rw [List.any_eq_false] at h1
  have := h1 x hx
  simpa using this
theorem sim_nn (n i : Nat) : ∀ x ∈ simL n i, 0 ≤ x := fun x hx => by
  unfold simL at hx
  rcases List.mem_or_eq_of_mem_set hx with hx | rfl
  · rw [(List.mem_replicate.1 hx).2]; decide
  · decide
theorem RS.len {c : List (List Int)} {h : Int} {r : List Int} (k : RS c h r) : r.length = c.length := by
  induction k with
  | sim i hi => exact simL_len _ _
  | up r i _ _ _ _ _ ih => rw [mir_len]; exact ih
theorem RS.nn {c : List (List Int)} {h : Int} {r : List Int} (k : RS c h r) : ∀ x ∈ r, 0 ≤ x := by
  cases k with
  | sim i hi => exact sim_nn _ _
  | up r i _ _ hs _ _ => exact sgn_nn hs
theorem RS.hle {c : List (List Int)} {h : Int} (h1 : 1 ≤ h) {r : List Int} (k : RS c h r) : hgt r ≤ h := by
  cases k with
  | sim i hi => rw [hgt_sim _ _ hi]; exact h1
  | up r i _ _ _ hh _ => exact hh
theorem RS.box {c : List (List Int)} {h : Int} (h1 : 1 ≤ h) {r : List Int} (k : RS c h r) : ∀ x ∈ r, 0 ≤ x ∧ x ≤ h := fun x hx => ⟨k.nn x hx, by have := hgt_sum r k.nn x hx; have := k.hle h1; omega⟩
def enc13 : List Int → Nat
  | [] => 0
  | x :: l => x.toNat + 13 * enc13 l
theorem enc13_inj : ∀ {a b : List Int}, a.length = b.length → (∀ x ∈ a, 0 ≤ x ∧ x ≤ 12) → (∀ x ∈ b, 0 ≤ x ∧ x ≤ 12) → enc13 a = enc13 b → a = b
  | [], [], _, _, _, _ => rfl
  | [], _ :: _, h, _, _, _ => by simp at h
  | _ :: _, [], h, _, _, _ => by simp at h
  | x :: a, y :: b, hl, ha, hb, h => by
    have h1 := ha x (List.mem_cons_self ..)
    have h2 := hb y (List.mem_cons_self ..)
    simp only [enc13] at h
    rw [enc13_inj (a := a) (b := b) (by simpa using hl) (fun z hz => ha z (List.mem_cons_of_mem _ hz)) (fun z hz => hb z (List.mem_cons_of_mem _ hz)) (by omega), show x = y by omega]
theorem enc13_lt : ∀ {a : List Int}, (∀ x ∈ a, 0 ≤ x ∧ x ≤ 12) → enc13 a < 13 ^ a.length
  | [], _ => by simp [enc13]
  | x :: a, h => by
    have h1 := h x (List.mem_cons_self ..)
    have ih := enc13_lt (a := a) fun z hz => h z (List.mem_cons_of_mem _ hz)
    simp only [enc13, List.length_cons, Nat.pow_succ]
    omega
theorem box_count {n : Nat} (hn : n ≤ 4) {l : List (List Int)} (hd : l.Nodup) (h : ∀ r ∈ l, r.length = n ∧ ∀ x ∈ r, 0 ≤ x ∧ x ≤ 12) : l.length ≤ 28561 := by
  have h1 : (l.map enc13).Nodup := nodup_on _ (fun a ha b hb e => enc13_inj (by rw [(h a ha).1, (h b hb).1]) (h a ha).2 (h b hb).2 e) hd
  have h2 := nodup_le h1 (b := List.range 28561) fun x hx => by
    obtain ⟨r, hr, rfl⟩ := List.mem_map.1 hx
    have := enc13_lt (h r hr).2
    rw [(h r hr).1] at this
    have : 13 ^ n ≤ 13 ^ 4 := Nat.pow_le_pow_right (by decide) hn
    exact List.mem_range.2 (by omega)
  simpa using h2
end Go.Proofs.YtcinngodeoidnaaGreat
namespace Go.Proofs.YtcinngodeoidnaaGreat
open Go Go.Aw Go.Cox
def lin (a : Int) (x : List Int) (b : Int) (y : List Int) : List Int := List.zipWith (fun p q => a * p - b * q) x y
def rowS (M : List (List Int)) (r c k : Nat) : List Int := lin ((M.getD r []).getD c 0) (M.getD k []) ((M.getD k []).getD c 0) (M.getD r [])
def rowI (M : List (List Int)) (r c k : Nat) : List Int := if (M.getD k []).getD c 0 = 0 then M.getD k [] else rowS M r c k
def elim (g : List (List Int) → Nat → List Int) : Nat → Nat → List (List Int) → List (List Int)
  | 0, _, M => M
  | f + 1, k, M => elim g f (k + 1) (M.set k (g M k))
theorem lin_len (a : Int) (x : List Int) (b : Int) (y : List Int) : (lin a x b y).length = min x.length y.length := by simp [lin]
theorem lin_get (a : Int) (x : List Int) (b : Int) (y : List Int) {j : Nat} (h : j < x.length) (h2 : j < y.length) : (lin a x b y).getD j 0 = a * x.getD j 0 - b * y.getD j 0 := by
  simp [lin, List.getD, List.getElem?_zipWith, List.getElem?_eq_getElem h, List.getElem?_eq_getElem h2]
theorem getD_out {x : List Int} {j : Nat} (h : x.length ≤ j) : x.getD j 0 = 0 := by simp [List.getD, List.getElem?_eq_none h]
theorem mul_bnd {b p q : Int} (hp : -b ≤ p ∧ p ≤ b) (hq : -b ≤ q ∧ q ≤ b) : -(b * b) ≤ p * q ∧ p * q ≤ b * b := by
  have h : (p * q).natAbs ≤ (b * b).natAbs := by
    rw [Int.natAbs_mul, Int.natAbs_mul]
    exact Nat.mul_le_mul (by omega) (by omega)
  have h0 : 0 ≤ b * b := Int.mul_nonneg (by omega) (by omega)
  omega
theorem lin_bnd {b m : Int} {x y : List Int} {p q : Int} (hm : 2 * (b * b) ≤ m) (hb : 0 ≤ b) (hx : Bnd b x) (hy : Bnd b y) (hp : -b ≤ p ∧ p ≤ b) (hq : -b ≤ q ∧ q ≤ b) : Bnd m (lin p x q y) := by
  intro z hz
  unfold lin at hz
  rw [List.mem_iff_getElem] at hz
  obtain ⟨i, hi, rfl⟩ := hz
  rw [List.getElem_zipWith]
  simp only [List.length_zipWith] at hi
  have h1 := hx _ (List.getElem_mem (l := x) (n := i) (by omega))
  have h2 := hy _ (List.getElem_mem (l := y) (n := i) (by omega))
  have e1 := mul_bnd hp h1
  have e2 := mul_bnd hq h2
  omega
def OKM (n : Nat) (b : Int) (M : List (List Int)) : Prop := M.length = n ∧ ∀ k, k < n → (M.getD k []).length = n ∧ Bnd b (M.getD k [])
def beta : Nat → Int
  | 0 => 8
  | 1 => 128
  | 2 => 32768
  | _ => 2147483648
theorem beta_pos (r : Nat) : 8 ≤ beta r ∧ beta r ≤ 2147483648 := by
  match r with
  | 0 => decide
  | 1 => decide
  | 2 => decide
  | n + 3 => simp [beta]
theorem beta_sq {r : Nat} (h : r ≤ 2) : 2 * (beta r * beta r) ≤ beta (r + 1) := by
  match r, h with
  | 0, _ => decide
  | 1, _ => decide
  | 2, _ => decide
theorem Bnd.mono {a b : Int} (h : a ≤ b) {x : List Int} (hx : Bnd a x) : Bnd b x := fun y hy => by have := hx y hy; omega
theorem Bnd.at' {b : Int} (hb : 0 ≤ b) {x : List Int} (hx : Bnd b x) (j : Nat) : -b ≤ x.getD j 0 ∧ x.getD j 0 ≤ b := by
  by_cases h : j < x.length
  · rw [getD_eq h]; exact hx _ (List.getElem_mem h)
  · rw [getD_out (by omega)]; omega
def Mid (n r k : Nat) (M : List (List Int)) : Prop := OKM n (beta (r + 1)) M ∧ ∀ j, j < n → (j ≤ r ∨ k ≤ j) → Bnd (beta r) (M.getD j [])
theorem set_get (M : List (List Int)) (k j : Nat) (x : List Int) (hk : k < M.length) : (M.set k x).getD j [] = if j = k then x else M.getD j [] := by
  simp only [List.getD, List.getElem?_set]
  by_cases h : k = j
  · subst h; simp [hk]
  · rw [if_neg h, if_neg (Ne.symm h)]
theorem Mid.row {n r k c : Nat} {M : List (List Int)} (h : Mid n r k M) (hk : k < n) (hr : r < k) (hn : n ≤ 4) : (rowS M r c k).length = n ∧ Bnd (beta (r + 1)) (rowS M r c k) := by
  obtain ⟨⟨h1, h2⟩, h3⟩ := h
  refine ⟨by unfold rowS; rw [lin_len, (h2 k hk).1, (h2 r (by omega)).1]; omega, ?_⟩
  have b0 := beta_pos r
  have b1 := h3 k hk (.inr (Nat.le_refl _))
  have b2 := h3 r (by omega) (.inl (Nat.le_refl _))
  exact lin_bnd (beta_sq (by omega)) (by omega) b1 b2 (b2.at' (by omega) c) (b1.at' (by omega) c)
theorem Mid.put {n r k : Nat} {M : List (List Int)} {x : List Int} (h : Mid n r k M) (hk : k < n) (hr : r < k) (hx : x.length = n ∧ Bnd (beta (r + 1)) x) : Mid n r (k + 1) (M.set k x) := by
  obtain ⟨⟨h1, h2⟩, h3⟩ := h
  refine ⟨⟨by simp [h1], fun j hj => ?_⟩, fun j hj hjk => ?_⟩
  · rw [set_get _ _ _ _ (by omega)]
    split
    · exact hx
    · exact h2 j hj
  · rw [set_get _ _ _ _ (by omega), if_neg (by omega)]
    exact h3 j hj (by omega)
def MulM (n : Nat) (M N : List (List Int)) : Prop := N.length = M.length ∧ ∀ k, k < M.length → (M.getD k []).length = n ∧ (N.getD k []).length = n ∧ ∃ l : Int, l ≠ 0 ∧ ∀ j, (N.getD k []).getD j 0 = l * (M.getD k []).getD j 0
theorem MulM.zero {n : Nat} {M N : List (List Int)} (h : MulM n M N) {k : Nat} (hk : k < M.length) (c : Nat) : (N.getD k []).getD c 0 = 0 ↔ (M.getD k []).getD c 0 = 0 := by
  obtain ⟨_, _, l, hl, h2⟩ := h.2 k hk
  rw [h2 c, Int.mul_eq_zero]
  simp [hl]
theorem MulM.put {n : Nat} {M N : List (List Int)} (h : MulM n M N) {r c k : Nat} (hr : r < k) (hk : k < M.length) (hp : (M.getD r []).getD c 0 ≠ 0) : MulM n (M.set k (rowI M r c k)) (N.set k (rowS N r c k)) := by
  have hl := h.1
  obtain ⟨a1, a2, l, hl0, a3⟩ := h.2 k hk
  obtain ⟨b1, b2, m, hm0, b3⟩ := h.2 r (by omega)
  refine ⟨by simp [hl], fun j hj => ?_⟩
  simp only [List.length_set] at hj
  rw [set_get _ _ _ _ hk, set_get _ _ _ _ (by omega)]
  by_cases hjk : j = k
  · rw [if_pos hjk, if_pos hjk]
    have hS : (rowS N r c k).length = n := by unfold rowS; rw [lin_len, a2, b2]; omega
    have gS : ∀ j, j < n → (rowS N r c k).getD j 0 = (N.getD r []).getD c 0 * (N.getD k []).getD j 0 - (N.getD k []).getD c 0 * (N.getD r []).getD j 0 := fun j hj => by
      unfold rowS; rw [lin_get _ _ _ _ (by omega) (by omega)]
    unfold rowI
    by_cases h0 : (M.getD k []).getD c 0 = 0
    · rw [if_pos h0]
      refine ⟨a1, hS, m * (M.getD r []).getD c 0 * l, ?_, fun j => ?_⟩
      · exact Int.mul_ne_zero (Int.mul_ne_zero hm0 hp) hl0
      · by_cases hj : j < n
        · rw [gS j hj, a3 c, h0, a3 j, b3 c, Int.mul_zero, Int.zero_mul, Int.sub_zero]; simp only [Int.mul_assoc]
        · rw [getD_out (x := rowS N r c k) (by omega), getD_out (x := M.getD k []) (by omega), Int.mul_zero]
    · rw [if_neg h0]
      have hM : (rowS M r c k).length = n := by unfold rowS; rw [lin_len, a1, b1]; omega
      refine ⟨hM, hS, m * l, Int.mul_ne_zero hm0 hl0, fun j => ?_⟩
      by_cases hj : j < n
      · rw [gS j hj, a3 c, a3 j, b3 c, b3 j]
        unfold rowS
        rw [lin_get _ _ _ _ (by omega) (by omega), Int.mul_sub]
        congr 1
        · rw [Int.mul_assoc, Int.mul_left_comm ((M.getD r []).getD c 0), Int.mul_assoc]
        · rw [Int.mul_comm m l, Int.mul_assoc l m, Int.mul_assoc l, Int.mul_left_comm m]
      · rw [getD_out (x := rowS N r c k) (by omega), getD_out (x := rowS M r c k) (by omega), Int.mul_zero]
  · rw [if_neg hjk, if_neg hjk]; exact h.2 j hj
theorem MulM.elim {n r c : Nat} : ∀ (f k : Nat) {M N : List (List Int)}, MulM n M N → r < k → k + f ≤ M.length → (M.getD r []).getD c 0 ≠ 0 → MulM n (elim (fun N k => rowI N r c k) f k M) (elim (fun N k => rowS N r c k) f k N)
  | 0, k, M, N, h, _, _, _ => h
  | f + 1, k, M, N, h, hr, hk, hp => by
    simp only [Go.Proofs.YtcinngodeoidnaaGreat.elim]
    refine MulM.elim f (k + 1) (h.put hr (by omega) hp) (by omega) (by simp; omega) ?_
    rw [set_get _ _ _ _ (by omega), if_neg (by omega)]
    exact hp
theorem MulM.refl {n : Nat} {b : Int} {M : List (List Int)} (h : OKM n b M) : MulM n M M :=
  ⟨rfl, fun k hk => ⟨(h.2 k (by rw [← h.1]; exact hk)).1, (h.2 k (by rw [← h.1]; exact hk)).1, 1, by decide, fun j => by rw [Int.one_mul]⟩⟩
end Go.Proofs.YtcinngodeoidnaaGreat
namespace Go.Proofs.YtcinngodeoidnaaGreat
open Go Go.Aw Go.Cox
def sumN : Nat → (Nat → Int) → Int
  | 0, _ => 0
  | n + 1, f => sumN n f + f n
theorem sumN_succ (n : Nat) (f : Nat → Int) : sumN (n + 1) f = sumN n f + f n := rfl
theorem sumN_congr {f g : Nat → Int} : ∀ n, (∀ i, i < n → f i = g i) → sumN n f = sumN n g
  | 0, _ => rfl
  | n + 1, h => by unfold sumN; rw [sumN_congr n (fun i hi => h i (by omega)), h n (by omega)]
theorem sumN_zero : ∀ n, sumN n (fun _ => 0) = 0
  | 0 => rfl
  | n + 1 => by unfold sumN; rw [sumN_zero n]; rfl
theorem sumN_zero' {f : Nat → Int} (n : Nat) (h : ∀ i, i < n → f i = 0) : sumN n f = 0 := (sumN_congr n h).trans (sumN_zero n)
theorem sumN_add (f g : Nat → Int) : ∀ n, sumN n (fun i => f i + g i) = sumN n f + sumN n g
  | 0 => rfl
  | n + 1 => by simp only [sumN_succ]; rw [sumN_add f g n]; omega
theorem sumN_mul (m : Int) (f : Nat → Int) : ∀ n, sumN n (fun i => m * f i) = m * sumN n f
  | 0 => by simp [sumN]
  | n + 1 => by unfold sumN; rw [sumN_mul m f n, Int.mul_add]
theorem sumN_one {f : Nat → Int} {p : Nat} : ∀ n, p < n → (∀ i, i < n → i ≠ p → f i = 0) → sumN n f = f p
  | 0, h, _ => by omega
  | n + 1, h, hf => by
    unfold sumN
    by_cases e : p = n
    · subst e
      rw [sumN_zero' p (fun i hi => hf i (by omega) (by omega))]; omega
    · rw [sumN_one n (by omega) (fun i hi => hf i (by omega)), hf n (by omega) (by omega)]; omega
def Gen (r : Nat) (S : Vec → Prop) : Prop := ∃ g : Nat → Vec, ∀ v, S v → ∃ m : Int, m ≠ 0 ∧ ∃ a : Nat → Int, ∀ k, m * v k = sumN r (fun i => a i * g i k)
def Ind (r : Nat) (S : Vec → Prop) : Prop := ∃ h : Nat → Vec, (∀ j, j < r → S (h j)) ∧ ∀ x : Nat → Int, (∀ k, sumN r (fun j => x j * h j k) = 0) → ∀ j, j < r → x j = 0
theorem Ind.mono {r : Nat} {S T : Vec → Prop} (h : Ind r S) (hs : ∀ v, S v → T v) : Ind r T := by
  obtain ⟨g, h1, h2⟩ := h; exact ⟨g, fun j hj => hs _ (h1 j hj), h2⟩
theorem Gen.mono {r : Nat} {S T : Vec → Prop} (h : Gen r T) (hs : ∀ v, S v → T v) : Gen r S := by
  obtain ⟨g, h1⟩ := h; exact ⟨g, fun v hv => h1 v (hs v hv)⟩
def Sp (M : List (List Int)) (v : Vec) : Prop := ∃ a : Nat → Int, ∀ k, v k = sumN M.length (fun i => a i * (M.getD i []).getD k 0)
theorem Sp.row {M : List (List Int)} {i : Nat} (h : i < M.length) : Sp M (vecL (M.getD i [])) :=
  ⟨fun j => if j = i then 1 else 0, fun k => by
    rw [sumN_one M.length h (fun j _ hj => by simp only []; rw [if_neg hj, Int.zero_mul])]
    simp [vecL]⟩
theorem Sp.comb {M : List (List Int)} {u v : Vec} (hu : Sp M u) (hv : Sp M v) (x y : Int) : Sp M (fun k => x * u k + y * v k) := by
  obtain ⟨a, ha⟩ := hu
  obtain ⟨b, hb⟩ := hv
  refine ⟨fun i => x * a i + y * b i, fun k => ?_⟩
  simp only []
  rw [ha k, hb k, ← sumN_mul, ← sumN_mul, ← sumN_add]
  exact sumN_congr _ fun i _ => by grind
theorem Sp.sum {M : List (List Int)} {f : Nat → Vec} {x : Nat → Int} : ∀ n, (∀ i, i < n → Sp M (f i)) → Sp M (fun k => sumN n (fun i => x i * f i k))
  | 0, _ => ⟨fun _ => 0, fun k => by rw [sumN_zero' _ fun i _ => by rw [Int.zero_mul]]; rfl⟩
  | n + 1, h => by
    have := Sp.comb (Sp.sum (x := x) n (fun i hi => h i (by omega))) (h n (by omega)) 1 (x n)
    refine (congrArg (Sp M) (funext fun k => ?_)).mp this
    simp only [sumN_succ]; omega
def Sub (M N : List (List Int)) : Prop := ∀ i, i < M.length → ∃ m : Int, m ≠ 0 ∧ Sp N (fun k => m * (M.getD i []).getD k 0)
theorem prodN : ∀ (n : Nat) (m : Nat → Int), (∀ i, i < n → m i ≠ 0) → ∃ P : Int, P ≠ 0 ∧ ∀ i, i < n → ∃ q, P = q * m i
  | 0, _, _ => ⟨1, by decide, fun i hi => by omega⟩
  | n + 1, m, h => by
    obtain ⟨P, h1, h2⟩ := prodN n m (fun i hi => h i (by omega))
    refine ⟨P * m n, Int.mul_ne_zero h1 (h n (by omega)), fun i hi => ?_⟩
    by_cases e : i = n
    · subst e; exact ⟨P, rfl⟩
    · obtain ⟨q, hq⟩ := h2 i (by omega)
      exact ⟨q * m n, by rw [hq]; grind⟩
theorem Sub.sp {M N : List (List Int)} (h : Sub M N) {v : Vec} (hv : Sp M v) : ∃ m : Int, m ≠ 0 ∧ Sp N (fun k => m * v k) := by
  obtain ⟨a, ha⟩ := hv
  have hch : ∀ i, ∃ m : Int, m ≠ 0 ∧ (i < M.length → Sp N (fun k => m * (M.getD i []).getD k 0)) := fun i => by
    by_cases hi : i < M.length
    · obtain ⟨m, h1, h2⟩ := h i hi; exact ⟨m, h1, fun _ => h2⟩
    · exact ⟨1, by decide, fun h => absurd h hi⟩
  let m : Nat → Int := fun i => (hch i).choose
  have hm : ∀ i, m i ≠ 0 := fun i => (hch i).choose_spec.1
  have hs : ∀ i, i < M.length → Sp N (fun k => m i * (M.getD i []).getD k 0) := fun i => (hch i).choose_spec.2
  obtain ⟨P, hP, hq⟩ := prodN M.length m (fun i _ => hm i)
  have hch2 : ∀ i, ∃ q : Int, i < M.length → P = q * m i := fun i => by
    by_cases hi : i < M.length
    · obtain ⟨q, h1⟩ := hq i hi; exact ⟨q, fun _ => h1⟩
    · exact ⟨0, fun h => absurd h hi⟩
  let q : Nat → Int := fun i => (hch2 i).choose
  have hqs : ∀ i, i < M.length → P = q i * m i := fun i => (hch2 i).choose_spec
  refine ⟨P, hP, ?_⟩
  have := Sp.sum (M := N) (f := fun i k => m i * (M.getD i []).getD k 0) (x := fun i => a i * q i) M.length hs
  refine (congrArg (Sp N) (funext fun k => ?_)).mp this
  rw [ha k, ← sumN_mul]
  exact sumN_congr _ fun i hi => by rw [hqs i hi]; grind
theorem Sub.trans {M N K : List (List Int)} (h : Sub M N) (k : Sub N K) : Sub M K := fun i hi => by
  obtain ⟨m, h1, h2⟩ := h i hi
  obtain ⟨m', h3, h4⟩ := k.sp h2
  exact ⟨m' * m, Int.mul_ne_zero h3 h1, (congrArg (Sp K) (funext fun k => by grind)).mp h4⟩
theorem Sub.refl (M : List (List Int)) : Sub M M := fun i hi => ⟨1, by decide, (congrArg (Sp M) (funext fun k => by simp [vecL])).mp (Sp.row hi)⟩
end Go.Proofs.YtcinngodeoidnaaGreat
namespace Go.Proofs.YtcinngodeoidnaaGreat
open Go Go.Aw Go.Cox
end Go.Proofs.YtcinngodeoidnaaGreat
namespace Go.Proofs.YtcinngodeoidnaaGreat
open Go Go.Aw Go.Cox
end Go.Proofs.YtcinngodeoidnaaGreat
namespace Go.Proofs.YtcinngodeoidnaaGreat
open Go Go.Aw Go.Cox
def mirF (A : Mat) (n i : Nat) (r : Vec) : Vec := fun k => if k = i then r i - sumN n (fun j => A i j * r j) else r k
def actF (A : Mat) (n : Nat) (w : List Nat) (r : Vec) : Vec := w.foldr (mirF A n) r
def lamF (A : Mat) (n : Nat) (r : Vec) : Vec := fun k => sumN n (fun j => A k j * r j)
theorem actF_cons (A : Mat) (n i : Nat) (w : List Nat) (r : Vec) : actF A n (i :: w) r = mirF A n i (actF A n w r) := rfl
theorem mirF_eq (A : Mat) (n i : Nat) (r : Vec) (k : Nat) : mirF A n i r k = r k - (if k = i then lamF A n r i else 0) := by
  unfold mirF
  by_cases h : k = i
  · rw [if_pos h, if_pos h, h]; rfl
  · rw [if_neg h, if_neg h]; omega
theorem lamF_mir (A : Mat) {n i : Nat} (hi : i < n) (r : Vec) : lamF A n (mirF A n i r) = refl A i (lamF A n r) := by
  funext k
  unfold refl
  show sumN n (fun j => A k j * mirF A n i r j) = lamF A n r k - lamF A n r i * A k i
  have e : sumN n (fun j => A k j * (if j = i then lamF A n r i else 0)) = lamF A n r i * A k i := by
    rw [sumN_one n hi (fun j _ hj => by rw [if_neg hj, Int.mul_zero]), if_pos rfl, Int.mul_comm]
  rw [sumN_congr n (g := fun j => A k j * r j + (-1) * (A k j * (if j = i then lamF A n r i else 0))) (fun j _ => by rw [mirF_eq]; grind), sumN_add, sumN_mul, e]
  show lamF A n r k + _ = _
  omega
def unitF (i : Nat) : Vec := fun k => if k = i then 1 else 0
theorem lamF_unit (A : Mat) {n i : Nat} (hi : i < n) (k : Nat) : lamF A n (unitF i) k = A k i := by
  unfold lamF
  rw [sumN_one n hi (fun j _ hj => by unfold unitF; rw [if_neg hj, Int.mul_zero])]
  simp [unitF]
theorem dotL_sum {a r : List Int} (h : a.length = r.length) : dotL a r = sumN r.length (fun j => a.getD j 0 * r.getD j 0) := by
  have key : ∀ k, k ≤ r.length → dotL (a.take k) (r.take k) = sumN k (fun j => a.getD j 0 * r.getD j 0) := by
    intro k
    induction k with
    | zero => intro _; rfl
    | succ k ih => intro hk; rw [dot_snoc a r k (by omega) (by omega), ih (by omega)]; rfl
  have := key r.length (Nat.le_refl _)
  rwa [List.take_length, ← h, List.take_length, h] at this
theorem mir_vec {c : List (List Int)} (hc : CartanP c) {i : Int} (hi : 0 ≤ i ∧ i < c.length) {r : List Int} (hr : r.length = c.length) : vecL (mirL c i r) = mirF (matA c) c.length i.toNat (vecL r) := by
  funext k
  have hrow := (row_bnd hc (i := i.toNat) (by omega)).2
  unfold mirL mirF
  show (List.set _ _ _).getD k 0 = _
  rw [dotL_sum (by omega)]
  simp only [List.getD, List.getElem?_set]
  by_cases h : i.toNat = k
  · subst h
    rw [if_pos rfl, if_pos (by omega), if_pos rfl, hr]
    rfl
  · rw [if_neg h, if_neg (Ne.symm h)]; rfl
theorem actR_vec {c : List (List Int)} (hc : CartanP c) {r : List Int} (hr : r.length = c.length) : ∀ (w : List Int), letters c.length w → vecL (actR c w r) = actF (matA c) c.length (nat w) (vecL r)
  | [], _ => rfl
  | i :: w, hw => by
    obtain ⟨h1, h2⟩ := letters_cons.1 hw
    show vecL (mirL c i (actR c w r)) = mirF _ _ _ (actF _ _ (nat w) _)
    rw [mir_vec hc h1 (by rw [actR_len]; exact hr), actR_vec hc hr w h2]
theorem vec_sim {n i : Nat} (hi : i < n) : vecL (simL n i) = unitF i := by
  funext k
  unfold simL unitF
  show (List.set _ _ _).getD k 0 = _
  simp only [List.getD, List.getElem?_set, List.length_replicate]
  by_cases h : i = k
  · subst h; simp [hi]
  · rw [if_neg h, if_neg (Ne.symm h)]
    by_cases hk : k < n
    · simp [hk]
    · simp [hk]
theorem sumN_nonneg {f : Nat → Int} : ∀ n, (∀ i, i < n → 0 ≤ f i) → 0 ≤ sumN n f ∧ ∀ i, i < n → f i ≤ sumN n f
  | 0, _ => ⟨by simp [sumN], fun i hi => by omega⟩
  | n + 1, h => by
    obtain ⟨h1, h2⟩ := sumN_nonneg n fun i hi => h i (by omega)
    have := h n (by omega)
    simp only [sumN_succ]
    refine ⟨by omega, fun i hi => ?_⟩
    by_cases e : i = n
    · subst e; omega
    · have := h2 i (by omega); omega
section
variable {c : List (List Int)} (hF : FinP c)
end
end Go.Proofs.YtcinngodeoidnaaGreat

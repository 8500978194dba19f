/- The rank: the reference's walk. -/
import Derived.Test.YtnhiamdnghgboaaRank2
set_option linter.unusedVariables false
set_option linter.unusedSimpArgs false
namespace Go.Proofs.Ytnhiamdnghgboaa
open Go Go.Aw Go.Cox

def GdS (n : Nat) (A : List (List Int)) (M : List (List Int)) (r c : Nat) : Prop :=
  OKM n (beta r) M ∧ r ≤ n ∧ c ≤ n ∧ rkG rowS (n - c) M r c = rkG rowS n A 0 0
def rws (ys : List (Nat × List Int)) : List (List Int) := ys.map (·.2)
theorem rws_getD (ys : List (Nat × List Int)) (k : Nat) : (rws ys).getD k [] = (ys.getD k (0, [])).2 := by
  unfold rws
  simp only [List.getD, List.getElem?_map]
  cases ys[k]? <;> rfl
theorem rws_len (ys : List (Nat × List Int)) : (rws ys).length = ys.length := by simp [rws]
theorem rws_set (ys : List (Nat × List Int)) (k q : Nat) (x : List Int) : rws (ys.set k (q, x)) = (rws ys).set k x := by simp [rws, List.map_set]
theorem takeI_snoc (Z : List Int) (j : Nat) (h : j < Z.length) : Z.take (j + 1) = Z.take j ++ [Z.getD j 0] := by
  rw [getD_eq h, List.take_succ_eq_append_getElem h]
theorem rws_set2 (ys : List (Nat × List Int)) (k : Nat) (y : Nat × List Int) : rws (ys.set k y) = (rws ys).set k y.2 := by simp [rws, List.map_set]

set_option maxHeartbeats 4000000 in
theorem c_spec_l17Rank (n : Nat) (ys : List (Nat × List Int)) (A : List (List Int)) (hA : rws ys = A) (hn : n ≤ 4) (hok : OKM n 8 A) (nn : Bool) :
    FunM B 55 [.own 0 0] .lrow ys nn (fun rs o => rs = [.int .i64 (rkG rowS n A 0 0 : Nat)] ∧ ∃ ys', o = [.arr .lrow ys' 0 nn]) := by
  have hG0 : GdS n A (rws ys) 0 0 := ⟨by rw [hA]; exact hok, by omega, by omega, by rw [hA]; rfl⟩
  refine FunM.walk B_ok (fn := Try.f55) (fun vs w => Try.call55 vs w) Try.func55 rfl (by rw [Try.ntmps55]; simp) (fun C hC hP hT hΓ hbt hfn hpin hfin => ?_); have hX := BX; rw [← hΓ, ← hbt] at hX; rw [Try.ntmps55]; simp only [AW5, simprocAttr, hX]
  refine Run.nq ?_; refine Run.regionW hC (fun K hK => ?_); simp only [AW5, simprocAttr, hX]; (repeat (with_reducible refine And.intro ?_ ?_); exact vc0); refine hK _ ?_; clear hK K; refine Run.nq ?_
  refine Run.nq ?_; refine Run.regionW hC (fun K hK => ?_); simp only [AW5, simprocAttr, hX]; (repeat (with_reducible refine And.intro ?_ ?_); exact vc0); refine hK _ ?_; clear hK K; refine Run.nq ?_
  refine Run.nq ?_; refine Run.regionW hC (fun K hK => ?_); simp only [AW5, simprocAttr, hX]; (repeat (with_reducible refine And.intro ?_ ?_); exact vc0); refine hK _ ?_; clear hK K; refine Run.nq ?_
  refine Run.loopI (X := List (Nat × List Int) × Nat × Nat) (fun x => ⟨102, [(0, true, .v (.own 0 0)), (3, true, .v (.int .i64 (x.2.1))), (4, true, .v (.int .i64 (x.2.2)))], [.arr .lrow x.1 0 nn]⟩) (fun x => GdS n A (rws x.1) x.2.1 x.2.2) (fun x => n - x.2.2) ((ys, 0, 0)) (hG0) ?_ ?_
  · exact Le.sub (by first | rfl | simp) (by simp only [AW5, simprocAttr, hX]; try simp <;> try (first | rfl | exact ⟨rfl, rfl⟩ | exact ⟨rfl, rfl, rfl⟩))
  rintro ⟨y1, r, c⟩ hG ihO
  try simp only []
  simp only [] at hG
  clear hok hA hG0
  obtain ⟨hok, hr, hcn, hE⟩ := hG
  have hl : y1.length = n := by rw [← rws_len]; exact hok.1
  refine Run.nq ?_; refine Run.regionW hC (fun K hK => ?_); simp only [AW5, simprocAttr, hX]; (repeat (with_reducible refine And.intro ?_ ?_); exact vc0); refine hK _ ?_; clear hK K; refine Run.nq ?_
  refine Run.nq ?_; refine Run.condW (by simp only [AW5, simprocAttr, hX]; rfl) (by simp only [AW5, simprocAttr, hX]) ?_ ?_
  rotate_left
  · intro h
    have hc : c = n := by rw [decide_eq_false_iff_not] at h; omega
    refine Run.exit rfl ?_; refine Run.nq ?_
    refine Run.nq ?_; refine Run.regionW hC (fun K hK => ?_); simp only [AW5, simprocAttr, hX]; (repeat (with_reducible refine And.intro ?_ ?_); exact vc0); refine hK _ ?_; clear hK K; refine Run.nq ?_
    rw [hc, Nat.sub_self] at hE
    refine Run.retW [2] (by decide) (by rw [hfn]; rfl) (by simp only [AW5, simprocAttr, hX]; rfl) (by simp only [AW5, simprocAttr, hX]) (hfin _ _ _ rfl rfl rfl ?_)
    rw [← hE]; exact ⟨rfl, _, rfl⟩
  intro h
  have hc : c < n := by rw [decide_eq_true_eq] at h; omega
  have hget : ∀ k, k < n → (y1.getD k (0, [])).2.length = n ∧ (rws y1).getD k [] = (y1.getD k (0, [])).2 := fun k hk => by
    have e := rws_getD y1 k
    exact ⟨by rw [← e]; exact (hok.2 k hk).1, e⟩
  refine Run.nq ?_; refine Run.regionW hC (fun K hK => ?_); simp only [AW5, simprocAttr, hX]; (repeat (with_reducible refine And.intro ?_ ?_); exact vc0); refine hK _ ?_; clear hK K; refine Run.nq ?_
  refine Run.loopI (X := Nat) (fun a => ⟨102, [(0, true, .v (.own 0 0)), (3, true, .v (.int .i64 (r))), (4, true, .v (.int .i64 (c))), (5, true, .v (.int .i64 (a)))], [.arr .lrow y1 0 nn]⟩) (fun a => r ≤ a ∧ a ≤ n ∧ pvt (rws y1) c (n - a) a = pvt (rws y1) c (n - r) r) (fun a => n - a) (r) (⟨by omega, by omega, rfl⟩) ?_ ?_
  · exact Le.sub (by first | rfl | simp) (by simp only [AW5, simprocAttr, hX]; try simp <;> try (first | rfl | exact ⟨rfl, rfl⟩ | exact ⟨rfl, rfl, rfl⟩))
  rintro a ⟨hra, han, hpv⟩ ih
  try simp only []
  by_cases ha : a < n
  · obtain ⟨m2, m3⟩ := hget a ha
    have haa : decide ((a : Int) < y1.length) = true := by rw [decide_eq_true_eq]; omega
    refine Run.nq ?_; refine Run.regionW hC (fun K hK => ?_); simp only [AW5, simprocAttr, hX]; (repeat (with_reducible refine And.intro ?_ ?_); exact vc0)
    simp only [haa]
    (try simp only [AW5, simprocAttr, hX]); (repeat (with_reducible refine And.intro ?_ ?_); exact vc0)
    (repeat (with_reducible refine And.intro ?_ ?_); exact vc0); refine hK _ ?_; clear hK K; refine Run.nq ?_
    refine Run.nq ?_; refine Run.condW (by simp only [AW5, simprocAttr, hX]; rfl) (by simp only [AW5, simprocAttr, hX]) ?_ ?_
    · intro h
      have h0 : ((rws y1).getD a []).getD c 0 = 0 := by rw [m3]; simpa using h
      refine Run.nq ?_; refine Run.regionW hC (fun K hK => ?_); simp (disch := omega) only [wrap_id, AW5, simprocAttr, hX]; (repeat (with_reducible refine And.intro ?_ ?_); exact vc0); refine hK _ ?_; clear hK K; refine Run.nq ?_
      have hpv2 : pvt (rws y1) c (n - (a + 1)) (a + 1) = pvt (rws y1) c (n - r) r := by
        rw [← hpv, show n - a = (n - (a + 1)) + 1 by omega]
        simp only [pvt]
        rw [if_pos h0]
      refine Run.le ?_ (ih (a + 1) (⟨by omega, by omega, hpv2⟩) (by (try simp only [List.length_append, List.length_cons, List.length_nil]); omega))
      exact Le.sub (by rfl) (by simp only [AW5, simprocAttr]; try simp)
    intro h
    have h0 : ((rws y1).getD a []).getD c 0 ≠ 0 := by rw [m3]; simpa using h
    have hpa : pvt (rws y1) c (n - r) r = a := by
      rw [← hpv, show n - a = (n - (a + 1)) + 1 by omega]
      simp only [pvt]
      rw [if_neg h0]
    refine Run.exit rfl ?_; refine Run.nq ?_
    refine Run.nq ?_; refine Run.regionW hC (fun K hK => ?_); simp only [AW5, simprocAttr, hX]; (repeat (with_reducible refine And.intro ?_ ?_); exact vc0); refine hK _ ?_; clear hK K; refine Run.nq ?_
    refine Run.nq ?_; refine Run.condW (by simp only [AW5, simprocAttr, hX]; rfl) (by simp only [AW5, simprocAttr, hX]) ?_ ?_
    · intro h; exfalso; simp at h; omega
    intro _
    obtain ⟨p2, p3⟩ := hget r (by omega)
    have hrn : r < n := by omega
    refine Run.nq ?_; refine Run.regionW hC (fun K hK => ?_); simp only [AW5, simprocAttr, hX]; (repeat (with_reducible refine And.intro ?_ ?_); exact vc0); refine hK _ ?_; clear hK K; refine Run.nq ?_
    refine Run.nq ?_; refine Run.regionW hC (fun K hK => ?_); simp only [AW5, simprocAttr, hX]; (repeat (with_reducible refine And.intro ?_ ?_); exact vc0); refine hK _ ?_; clear hK K; refine Run.nq ?_
    refine Run.nq ?_; refine Run.regionW hC (fun K hK => ?_); simp only [AW5, simprocAttr, hX]; (repeat (with_reducible refine And.intro ?_ ?_); exact vc0); refine hK _ ?_; clear hK K; refine Run.nq ?_
    refine Run.nq ?_; refine Run.regionW hC (fun K hK => ?_); simp (disch := omega) only [wrap_id, AW5, simprocAttr, hX]; (repeat (with_reducible refine And.intro ?_ ?_); exact vc0); refine hK _ ?_; clear hK K; refine Run.nq ?_
    have hmw : rws ((y1.set a (y1.getD r (0, []))).set r (y1.getD a (0, []))) = swp (rws y1) r a := by
      rw [rws_set2, rws_set2, ← p3, ← m3, swp_comm _ (by rw [rws_len]; omega) (by rw [rws_len]; omega)]
    have hok2 : OKM n (beta r) (rws ((y1.set a (y1.getD r (0, []))).set r (y1.getD a (0, [])))) := by rw [hmw]; exact hok.swp hrn ha
    have hE2 : rkG rowS (n - (c + 1)) (elim (fun N k => rowS N r c k) (n - (r + 1)) (r + 1) (rws ((y1.set a (y1.getD r (0, []))).set r (y1.getD a (0, []))))) (r + 1) (c + 1) = rkG rowS n A 0 0 := by
      rw [← hE, show n - c = (n - (c + 1)) + 1 by omega, hmw]
      simp only [rkG]
      rw [hok.1, hpa, if_neg (by omega)]
    have hP2 : (rws ((y1.set a (y1.getD r (0, []))).set r (y1.getD a (0, [])))).getD r [] = (y1.getD a (0, [])).2 := by
      rw [hmw, swp_get _ (by rw [rws_len]; omega) (by rw [rws_len]; omega), ← m3]
      split
      · rename_i e; rw [e]
      · rw [if_pos rfl]
    generalize hh2 : (y1.set a (y1.getD r (0, []))).set r (y1.getD a (0, [])) = y2 at *
    refine Run.keep [0, 3, 4, 6, 7] ?_; simp only [AK, Nat.reduceBEq]
    generalize hzp : (y1.getD a (0, [])).2 = P at *
    generalize hzq : (y1.getD a (0, [])).1 = pq at *
    refine Run.loopI (X := List (Nat × List Int) × Nat) (fun x => ⟨102, [(0, true, .v (.own 0 0)), (3, true, .v (.int .i64 (r))), (4, true, .v (.int .i64 (c))), (6, true, .v (.lr pq P)), (7, true, .v (.int .i64 (x.2)))], [.arr .lrow x.1 0 nn]⟩) (fun x => (r < x.2 ∧ x.2 ≤ n) ∧ Mid n r x.2 (rws x.1) ∧ elim (fun N k => rowS N r c k) (n - x.2) x.2 (rws x.1) = elim (fun N k => rowS N r c k) (n - (r + 1)) (r + 1) (rws y2) ∧ (rws x.1).getD r [] = P) (fun x => n - x.2) ((y2, r + 1)) (⟨by omega, Mid.start hok2 _, rfl, hP2⟩) ?_ ?_
    · exact Le.sub (by first | rfl | simp) (by simp only [AW5, simprocAttr, hX]; try simp <;> try (first | rfl | exact ⟨rfl, rfl⟩ | exact ⟨rfl, rfl, rfl⟩))
    rintro ⟨y, k⟩ ⟨⟨hrk, hkn⟩, hmid, hel, hP⟩ ihK
    try simp only []
    simp only [] at hrk hkn hmid hel hP
    clear ih hget m3 haa h h0 hpa p2 p3 hh2 hmw hE hok
    have hly : y.length = n := by rw [← rws_len]; exact hmid.1.1
    refine Run.nq ?_; refine Run.regionW hC (fun K hK => ?_); simp only [AW5, simprocAttr, hX]; (repeat (with_reducible refine And.intro ?_ ?_); exact vc0); refine hK _ ?_; clear hK K; refine Run.nq ?_
    refine Run.nq ?_; refine Run.condW (by simp only [AW5, simprocAttr, hX]; rfl) (by simp only [AW5, simprocAttr, hX]) ?_ ?_
    rotate_left
    · intro h
      have hkk : k = n := by rw [decide_eq_false_iff_not] at h; omega
      refine Run.exit rfl ?_; refine Run.nq ?_
      refine Run.nq ?_; refine Run.regionW hC (fun K hK => ?_); simp (disch := omega) only [wrap_id, AW5, simprocAttr, hX]; (repeat (with_reducible refine And.intro ?_ ?_); exact vc0); refine hK _ ?_; clear hK K; refine Run.nq ?_
      refine Run.nq ?_; refine Run.regionW hC (fun K hK => ?_); simp (disch := omega) only [wrap_id, AW5, simprocAttr, hX]; (repeat (with_reducible refine And.intro ?_ ?_); exact vc0); refine hK _ ?_; clear hK K; refine Run.nq ?_
      rw [hkk, Nat.sub_self] at hel
      simp only [elim] at hel
      rw [← hel] at hE2
      refine Run.le ?_ (ihO ((y, r + 1, c + 1)) (⟨hmid.1, hrn, hc, hE2⟩) (by (try simp only [List.length_append, List.length_cons, List.length_nil]); omega))
      exact Le.sub (by rfl) (by simp only [AW5, simprocAttr]; try simp)
    intro h
    have hk : k < n := by rw [decide_eq_true_eq] at h; omega
    have q3 := rws_getD y k
    have q2 : (y.getD k (0, [])).2.length = n := by rw [← q3]; exact (hmid.1.2 k hk).1
    have hrow := hmid.row (c := c) hk hrk hn
    have hel2 : elim (fun N k => rowS N r c k) (n - (k + 1)) (k + 1) ((rws y).set k (rowS (rws y) r c k)) = elim (fun N k => rowS N r c k) (n - (r + 1)) (r + 1) (rws y2) := by
      rw [← hel, show n - k = (n - (k + 1)) + 1 by omega]
      simp only [elim]
    have hZ : ∀ j, j < n → (rowS (rws y) r c k).getD j 0 = P.getD c 0 * (y.getD k (0, [])).2.getD j 0 - (y.getD k (0, [])).2.getD c 0 * P.getD j 0 := fun j hj => by
      unfold rowS; rw [hP, q3, lin_get _ _ _ _ (by omega) (by omega)]
    have hrb := hmid.2 r hrn (.inl (Nat.le_refl _))
    have hkb := hmid.2 k hk (.inr (Nat.le_refl _))
    have b0 := beta_pos r
    have bq := beta_sq (r := r) (by omega)
    have b1 := beta_pos (r + 1)
    rw [hP] at hrb
    rw [q3] at hkb
    have hP2 : (rws (y.set k (0, rowS (rws y) r c k))).getD r [] = P := by
      rw [rws_set, set_get _ _ _ _ (by rw [rws_len]; omega), if_neg (by omega)]; exact hP
    rw [rws_set] at hP2
    generalize hzz : rowS (rws y) r c k = Z at *
    refine Run.nq ?_; refine Run.regionW hC (fun K hK => ?_); simp only [AW5, simprocAttr, hX]; (repeat (with_reducible refine And.intro ?_ ?_); exact vc0); refine hK _ ?_; clear hK K; refine Run.nq ?_
    refine Run.nq ?_; refine Run.regionW hC (fun K hK => ?_); simp only [AW5, simprocAttr, hX]; (repeat (with_reducible refine And.intro ?_ ?_); exact vc0); refine hK _ ?_; clear hK K; refine Run.nq ?_
    refine Run.keep [0, 3, 4, 6, 7, 8, 9] ?_; simp only [AK, Nat.reduceBEq]
    refine Run.loopI (X := Nat) (fun j => ⟨102, [(0, true, .v (.own 0 0)), (3, true, .v (.int .i64 (r))), (4, true, .v (.int .i64 (c))), (6, true, .v (.lr pq P)), (7, true, .v (.int .i64 (k))), (8, true, .v (.own 1 0)), (9, true, .v (.int .i64 (j)))], [.arr .lrow y 0 nn, .arr .int ((Z.take j)) 0 true]⟩) (fun j => j ≤ n) (fun j => n - j) (0) (by omega) ?_ ?_
    · exact Le.sub (by first | rfl | simp) (by simp only [AW5, simprocAttr, hX]; try simp <;> try (first | rfl | exact ⟨rfl, rfl⟩ | exact ⟨rfl, rfl, rfl⟩))
    rintro j hjn ihJ
    try simp only []
    refine Run.nq ?_; refine Run.regionW hC (fun K hK => ?_); simp only [AW5, simprocAttr, hX]; (repeat (with_reducible refine And.intro ?_ ?_); exact vc0); refine hK _ ?_; clear hK K; refine Run.nq ?_
    refine Run.nq ?_; refine Run.condW (by simp only [AW5, simprocAttr, hX]; rfl) (by simp only [AW5, simprocAttr, hX]) ?_ ?_
    rotate_left
    · intro h
      have hjj : j = Z.length := by rw [decide_eq_false_iff_not] at h; omega
      refine Run.exit rfl ?_; refine Run.nq ?_
      rw [hjj, List.take_length]
      refine Run.tolr 1 [0, 3, 4, 6, 7, 8] rfl (fun q hq => ?_); simp only [AL, frV_cons, frV_nil, AW5, simprocAttr]
      refine Run.nq ?_; refine Run.regionW hC (fun K hK => ?_); simp only [AW5, simprocAttr, hX]; (repeat (with_reducible refine And.intro ?_ ?_); exact vc0); refine hK _ ?_; clear hK K; refine Run.nq ?_
      refine Run.reKP hpin [0, 3, 4, 6, 7] [0] rfl (by simp [oAt, gen0]) (by decide) (by simp) ?_; simp only [AR, AW5, simprocAttr]
      refine Run.nq ?_; refine Run.regionW hC (fun K hK => ?_); simp (disch := omega) only [wrap_id, AW5, simprocAttr, hX]; (repeat (with_reducible refine And.intro ?_ ?_); exact vc0); refine hK _ ?_; clear hK K; refine Run.nq ?_
      have hm2 := hmid.put hk hrk hrow
      rw [← rws_set y k q] at hm2 hel2 hP2
      refine Run.le ?_ (ihK ((y.set k (q, Z), k + 1)) (⟨⟨by omega, by omega⟩, hm2, hel2, hP2⟩) (by (try simp only [List.length_append, List.length_cons, List.length_nil]); omega))
      exact Le.sub (by rfl) (by simp only [AW5, simprocAttr]; try simp)
    intro h
    have hj : j < n := by rw [decide_eq_true_eq] at h; omega
    have e1 : IntKind.i64.wrap (IntKind.i64.wrap ((y.getD k (0, [])).2.getD j 0 * P.getD c 0) - IntKind.i64.wrap ((y.getD k (0, [])).2.getD c 0 * P.getD j 0)) = Z.getD j 0 := by
      rw [hZ j hj]
      have m1 := mul_bnd (hkb.at' (by omega) j) (hrb.at' (by omega) c)
      have m2 := mul_bnd (hkb.at' (by omega) c) (hrb.at' (by omega) j)
      have w1 := wrap_id (n := (y.getD k (0, [])).2.getD j 0 * P.getD c 0) (by omega)
      have w2 := wrap_id (n := (y.getD k (0, [])).2.getD c 0 * P.getD j 0) (by omega)
      rw [w1, w2, wrap_id (by omega), Int.mul_comm (P.getD c 0)]
    refine Run.nq ?_; refine Run.regionD hC true [0,1,2,3,4,5,6,7,8,9,10,11,12,13,14,15,16,17,18,19,20,21,22,23,24,25,26,27,28] (by kernel_rfl) (fun K hK => ?_); simp only [AW5, simprocAttr, hX]; (repeat (with_reducible refine And.intro ?_ ?_); exact vc0)
    (repeat (with_reducible refine And.intro ?_ ?_); exact vc0); refine hK _ ?_; clear hK K; refine Run.nq ?_
    simp only [e1]
    refine Run.reKP hpin [0, 3, 4, 6, 7, 8, 9] [0, 1] rfl (by simp [oAt, gen0]) (by decide) (by simp) ?_; simp only [AR, AW5, simprocAttr]
    refine Run.nq ?_; refine Run.regionW hC (fun K hK => ?_); simp (disch := omega) only [wrap_id, AW5, simprocAttr, hX]; (repeat (with_reducible refine And.intro ?_ ?_); exact vc0); refine hK _ ?_; clear hK K; refine Run.nq ?_
    refine Run.le ?_ (ihJ (j + 1) (by omega) (by (try simp only [List.length_append, List.length_cons, List.length_nil]); omega))
    exact Le.sub (by first | rfl | (simp only [takeI_snoc Z j (by omega)]; done) | (rw [takeI_snoc Z j (by omega)]; rfl)) (by simp only [AW5, simprocAttr]; try simp)
  · have haa : decide ((a : Int) < y1.length) = false := by rw [decide_eq_false_iff_not]; omega
    have hae : a = n := by omega
    refine Run.nq ?_; refine Run.regionW hC (fun K hK => ?_); simp only [AW5, simprocAttr, hX]; (repeat (with_reducible refine And.intro ?_ ?_); exact vc0)
    simp only [haa]
    (try simp only [AW5, simprocAttr, hX]); (repeat (with_reducible refine And.intro ?_ ?_); exact vc0)
    (repeat (with_reducible refine And.intro ?_ ?_); exact vc0); refine hK _ ?_; clear hK K; refine Run.nq ?_
    refine Run.nq ?_; refine Run.condW (by simp only [AW5, simprocAttr, hX]; rfl) (by simp only [AW5, simprocAttr, hX]) ?_ ?_
    · intro h; cases h
    intro _
    refine Run.exit rfl ?_; refine Run.nq ?_
    refine Run.nq ?_; refine Run.regionW hC (fun K hK => ?_); simp only [AW5, simprocAttr, hX]; (repeat (with_reducible refine And.intro ?_ ?_); exact vc0); refine hK _ ?_; clear hK K; refine Run.nq ?_
    refine Run.nq ?_; refine Run.condW (by simp only [AW5, simprocAttr, hX]; rfl) (by simp only [AW5, simprocAttr, hX]) ?_ ?_
    rotate_left
    · intro h; exfalso; simp at h; omega
    intro _
    refine Run.exit rfl ?_; refine Run.nq ?_
    refine Run.nq ?_; refine Run.regionW hC (fun K hK => ?_); simp (disch := omega) only [wrap_id, AW5, simprocAttr, hX]; (repeat (with_reducible refine And.intro ?_ ?_); exact vc0); refine hK _ ?_; clear hK K; refine Run.nq ?_
    have hpv : pvt (rws y1) c (n - r) r = n := by rw [← hpv, hae, Nat.sub_self]; rfl
    have hE2 := hE
    rw [show n - c = (n - (c + 1)) + 1 by omega] at hE2
    simp only [rkG] at hE2
    rw [hok.1, if_pos hpv] at hE2
    refine Run.le ?_ (ihO ((y1, r, c + 1)) (⟨hok, hr, hc, hE2⟩) (by (try simp only [List.length_append, List.length_cons, List.length_nil]); omega))
    exact Le.sub (by rfl) (by simp only [AW5, simprocAttr]; try simp)
end Go.Proofs.Ytnhiamdnghgboaa

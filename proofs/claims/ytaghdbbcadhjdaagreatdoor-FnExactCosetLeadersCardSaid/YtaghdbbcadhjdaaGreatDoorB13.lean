/- The matrices of the named types: impl.TypeCartan, branch by branch (written by wip/tools/gentyp.py). -/
import Derived.Test.YtaghdbbcadhjdaaGreatDoorB12
import Derived.Test.YtaghdbbcadhjdaaGreatDoorB10
import Derived.Test.YtaghdbbcadhjdaaGreatDoorB11
import Derived.Test.YtaghdbbcadhjdaaGreatDoorB8
set_option linter.unusedVariables false
set_option linter.unusedSimpArgs false
namespace Go.Proofs.YtaghdbbcadhjdaaGreatDoor
open Go Go.Aw
theorem c_impl_chainR (n : Nat) (hn : n ≤ 8) : FunA B 179 [.int .i64 n] (fun rs o => ∃ ys g nn rest, (rw2 ys = chL n ∧ nn = true ∧ rest = []) ∧ (lb1 ys).Nodup ∧ rest.all flatAV = true ∧ rs = .own 0 g :: rest ∧ o = [.arr .lrow ys g nn]) := by
  refine FunA.walk B_ok (fn := Tryz.f179) (fun vs w => Tryz.call179 vs w) Tryz.func179 rfl (by rw [Tryz.ntmps179]; simp) (fun C hC hP hT hΓ hbt hfn hpin hfin => ?_); have hX := BX; rw [← hΓ, ← hbt.1, ← hbt.2.1, ← hbt.2.2.1] at hX; rw [hT] at hX; rw [Tryz.ntmps179]; simp only [AW7, simprocAttr, hX]
  refine Run.R ?_
  refine Run.R ?_
  refine Run.R ?_
  refine Run.loopI (X := List (Nat × List Int) × Nat) (fun y => ⟨36, [(0, true, .v (.int .i64 (n))), (3, true, .v (.own 0 0)), (7, true, .v (.int .i64 (n))), (8, true, .v (.int .i64 (y.2)))], [.arr .lrow (y.1) 0 true]⟩) (fun y => y.2 ≤ n ∧ rw2 y.1 = (List.range y.2).map (chR n) ∧ (lb1 y.1).Nodup) (fun y => n - y.2) (([], 0)) (⟨Nat.zero_le _, rfl, by simp [lb1]⟩) ?_ ?_
  · exact Le.sub (by first | rfl | simp) (by simp only [AW7, simprocAttr, hX]; try simp <;> try (first | rfl | exact ⟨rfl, rfl⟩ | exact ⟨rfl, rfl, rfl⟩))
  rintro ⟨ys, i⟩ ⟨hi, hE, hN⟩ ih
  try simp only []
  simp only [] at hi hE hN
  refine Run.R ?_
  refine Run.nq ?_; refine Run.cW ?_ ?_
  rotate_left
  · intro h
    have h : i = n := by rw [decide_eq_false_iff_not] at h; omega
    subst h
    refine Run.exit rfl ?_; refine Run.nq ?_
    refine Run.R ?_
    refine Run.rW [2] (hfin _ _ rfl rfl ?_)
    exact ⟨ys, 0, true, [], ⟨hE, rfl, rfl⟩, hN, rfl, rfl, rfl⟩
  intro h
  have h : i < n := by rw [decide_eq_true_eq] at h; omega
  have e1 : ((i : Int) - 1).toNat = i - 1 := by omega
  have e2 : ((i : Int) + 1).toNat = i + 1 := by omega
  have hyl : ys.length = i := by have : (rw2 ys).length = ys.length := by simp [rw2]
                                 rw [hE] at this; simpa using this.symm
  have hch := chR_eq n i h
  refine Run.R ?_
  refine Run.R ?_
  refine Run.R ?_
  refine Run.R ?_
  refine Run.nq ?_; refine Run.cW ?_ ?_
  · intro h1
    have h1 : 0 < i := by rw [decide_eq_true_eq] at h1; omega
    refine Run.RW ?_
    refine Run.RW ?_
    refine Run.nq ?_; refine Run.cW ?_ ?_
    · intro h2
      have h2 : i + 1 < n := by rw [decide_eq_true_eq] at h2; omega
      rw [if_pos h2, if_pos h1] at hch
      refine Run.RW ?_
      rw [e1, e2, hch]
      refine Run.reK hpin [0, 3, 4, 5, 7, 8] [0, 1] (by decide) (by simp) ?_; simp only [AR, AW7, simprocAttr]
      refine Run.tolr 1 [0, 3, 4, 5, 7, 8] rfl (fun q hq => ?_); simp only [AL, frV_cons, frV_nil, AW7, simprocAttr]
      refine Run.R ?_
      refine Run.reK hpin [0, 3, 7, 8] [0] (by decide) (by simp) ?_; simp only [AR, AW7, simprocAttr]
      have hnd2 : (lb1 (ys ++ [(q, chR n i)])).Nodup := by
        rw [lb1_app, List.nodup_append]
        refine ⟨hN, by simp [lb1], fun a ha b hb => ?_⟩
        simp [lb1] at hb
        subst hb
        obtain ⟨p, hp, rfl⟩ := List.mem_map.1 ha
        exact hq _ (List.mem_cons_self ..) _ _ _ rfl p hp
      have hE2 : rw2 (ys ++ [(q, chR n i)]) = (List.range (i + 1)).map (chR n) := by
        rw [chL_snoc, ← hE]; simp [rw2]
      refine Run.RW ?_
      refine Run.le ?_ (ih ((ys ++ [(q, chR n i)], i + 1)) (⟨h, hE2, hnd2⟩) (by (try simp only [List.length_append, List.length_cons, List.length_nil]); omega))
      exact Le.sub (by rfl) (by simp only [AW7, simprocAttr]; try simp)
    intro h2
    have h2 : ¬ i + 1 < n := by rw [decide_eq_false_iff_not] at h2; omega
    rw [if_neg h2, if_pos h1] at hch
    rw [e1, hch]
    refine Run.reK hpin [0, 3, 4, 5, 7, 8] [0, 1] (by decide) (by simp) ?_; simp only [AR, AW7, simprocAttr]
    refine Run.tolr 1 [0, 3, 4, 5, 7, 8] rfl (fun q hq => ?_); simp only [AL, frV_cons, frV_nil, AW7, simprocAttr]
    refine Run.R ?_
    refine Run.reK hpin [0, 3, 7, 8] [0] (by decide) (by simp) ?_; simp only [AR, AW7, simprocAttr]
    have hnd2 : (lb1 (ys ++ [(q, chR n i)])).Nodup := by
      rw [lb1_app, List.nodup_append]
      refine ⟨hN, by simp [lb1], fun a ha b hb => ?_⟩
      simp [lb1] at hb
      subst hb
      obtain ⟨p, hp, rfl⟩ := List.mem_map.1 ha
      exact hq _ (List.mem_cons_self ..) _ _ _ rfl p hp
    have hE2 : rw2 (ys ++ [(q, chR n i)]) = (List.range (i + 1)).map (chR n) := by
      rw [chL_snoc, ← hE]; simp [rw2]
    refine Run.RW ?_
    refine Run.le ?_ (ih ((ys ++ [(q, chR n i)], i + 1)) (⟨h, hE2, hnd2⟩) (by (try simp only [List.length_append, List.length_cons, List.length_nil]); omega))
    exact Le.sub (by rfl) (by simp only [AW7, simprocAttr]; try simp)
  intro h1
  have h1 : ¬ 0 < i := by rw [decide_eq_false_iff_not] at h1; omega
  refine Run.RW ?_
  refine Run.nq ?_; refine Run.cW ?_ ?_
  · intro h2
    have h2 : i + 1 < n := by rw [decide_eq_true_eq] at h2; omega
    rw [if_pos h2, if_neg h1] at hch
    refine Run.RW ?_
    rw [e2, hch]
    refine Run.reK hpin [0, 3, 4, 5, 7, 8] [0, 1] (by decide) (by simp) ?_; simp only [AR, AW7, simprocAttr]
    refine Run.tolr 1 [0, 3, 4, 5, 7, 8] rfl (fun q hq => ?_); simp only [AL, frV_cons, frV_nil, AW7, simprocAttr]
    refine Run.R ?_
    refine Run.reK hpin [0, 3, 7, 8] [0] (by decide) (by simp) ?_; simp only [AR, AW7, simprocAttr]
    have hnd2 : (lb1 (ys ++ [(q, chR n i)])).Nodup := by
      rw [lb1_app, List.nodup_append]
      refine ⟨hN, by simp [lb1], fun a ha b hb => ?_⟩
      simp [lb1] at hb
      subst hb
      obtain ⟨p, hp, rfl⟩ := List.mem_map.1 ha
      exact hq _ (List.mem_cons_self ..) _ _ _ rfl p hp
    have hE2 : rw2 (ys ++ [(q, chR n i)]) = (List.range (i + 1)).map (chR n) := by
      rw [chL_snoc, ← hE]; simp [rw2]
    refine Run.RW ?_
    refine Run.le ?_ (ih ((ys ++ [(q, chR n i)], i + 1)) (⟨h, hE2, hnd2⟩) (by (try simp only [List.length_append, List.length_cons, List.length_nil]); omega))
    exact Le.sub (by rfl) (by simp only [AW7, simprocAttr]; try simp)
  intro h2
  have h2 : ¬ i + 1 < n := by rw [decide_eq_false_iff_not] at h2; omega
  rw [if_neg h2, if_neg h1] at hch
  rw [hch]
  refine Run.reK hpin [0, 3, 4, 5, 7, 8] [0, 1] (by decide) (by simp) ?_; simp only [AR, AW7, simprocAttr]
  refine Run.tolr 1 [0, 3, 4, 5, 7, 8] rfl (fun q hq => ?_); simp only [AL, frV_cons, frV_nil, AW7, simprocAttr]
  refine Run.R ?_
  refine Run.reK hpin [0, 3, 7, 8] [0] (by decide) (by simp) ?_; simp only [AR, AW7, simprocAttr]
  have hnd2 : (lb1 (ys ++ [(q, chR n i)])).Nodup := by
    rw [lb1_app, List.nodup_append]
    refine ⟨hN, by simp [lb1], fun a ha b hb => ?_⟩
    simp [lb1] at hb
    subst hb
    obtain ⟨p, hp, rfl⟩ := List.mem_map.1 ha
    exact hq _ (List.mem_cons_self ..) _ _ _ rfl p hp
  have hE2 : rw2 (ys ++ [(q, chR n i)]) = (List.range (i + 1)).map (chR n) := by
    rw [chL_snoc, ← hE]; simp [rw2]
  refine Run.RW ?_
  refine Run.le ?_ (ih ((ys ++ [(q, chR n i)], i + 1)) (⟨h, hE2, hnd2⟩) (by (try simp only [List.length_append, List.length_cons, List.length_nil]); omega))
  exact Le.sub (by rfl) (by simp only [AW7, simprocAttr]; try simp)
theorem c_impl_chain (n : Nat) (hn : n ≤ 8) : FunA B 179 [.int .i64 n] (fun rs o => rs = [.own 0 0] ∧ ∃ hs, o = [.mat hs (chL n) 0 true]) :=
  (FunA.mat (by rfl) (post := fun rows nn rest => rows = chL n ∧ nn = true ∧ rest = []) (c_impl_chainR n hn)).mono fun rs o ⟨hs, rows, nn, rest, ⟨h1, h2, h3⟩, h4, h5, h6⟩ => by subst h1 h2 h3; exact ⟨h5, hs, h6⟩
def withL : List (List Int) → List Int → List (List Int)
  | c, i :: j :: a :: r => withL (set1 c i.toNat j.toNat a) r
  | c, _ => c
def okW (n : Nat) : List Int → Bool
  | i :: j :: _ :: r => decide (0 ≤ i) && decide (i < n) && decide (0 ≤ j) && decide (j < n) && okW n r
  | _ => true
theorem withL_drop (n : Nat) (c : List (List Int)) (es : List Int) (m : Nat) (h : m + 2 < es.length) (hok : okW n (es.drop m) = true) : (0 ≤ es.getD m 0 ∧ es.getD m 0 < n) ∧ (0 ≤ es.getD (m + 1) 0 ∧ es.getD (m + 1) 0 < n) ∧ okW n (es.drop (m + 3)) = true ∧ withL c (es.drop m) = withL (set1 c (es.getD m 0).toNat (es.getD (m + 1) 0).toNat (es.getD (m + 2) 0)) (es.drop (m + 3)) := by
  rw [List.drop_eq_getElem_cons (by omega : m < es.length), List.drop_eq_getElem_cons (by omega : m + 1 < es.length), List.drop_eq_getElem_cons (by omega : m + 2 < es.length)] at hok ⊢
  have e0 : es[m] = es.getD m 0 := by simp [List.getD_eq_getElem?_getD, show m < es.length by omega]
  have e1 : es[m + 1] = es.getD (m + 1) 0 := by simp [List.getD_eq_getElem?_getD, show m + 1 < es.length by omega]
  have e2 : es[m + 2] = es.getD (m + 2) 0 := by simp [List.getD_eq_getElem?_getD, show m + 2 < es.length by omega]
  simp only [okW, Bool.and_eq_true, decide_eq_true_eq, e0, e1] at hok
  refine ⟨⟨hok.1.1.1.1, hok.1.1.1.2⟩, ⟨hok.1.1.2, hok.1.2⟩, hok.2, ?_⟩
  simp only [withL, e0, e1, e2]
theorem withL_end (c : List (List Int)) : ∀ (es : List Int), es.length < 3 → withL c es = c
  | [], _ => rfl
  | [_], _ => rfl
  | [_, _], _ => rfl
  | _ :: _ :: _ :: _, h => by simp at h; omega
set_option maxHeartbeats 1000000 in
theorem c_impl_with (hs : List (Option Nat)) (c : List (List Int)) (es : List Int) (hl : es.length ≤ 100) (hc : c.length ≤ 100) (hr : ∀ k, k < c.length → (c.getD k []).length = c.length) (hok : okW c.length es = true) :
    FunO B 180 [.own 0 0, .sl false .int es] (.mat hs c 0 true) (fun rs o => rs = [.own 0 0] ∧ o = [.mat hs (withL c es) 0 true]) := by
  refine FunO.walk B_ok (fn := Tryz.f180) (fun vs w => Tryz.call180 vs w) Tryz.func180 rfl (by rw [Tryz.ntmps180]; simp) (fun C hC hP hT hΓ hbt hfn hpin hfin => ?_); have hX := BX; rw [← hΓ, ← hbt.1, ← hbt.2.1, ← hbt.2.2.1] at hX; rw [hT] at hX; rw [Tryz.ntmps180]; simp only [AW7, simprocAttr, hX]
  refine Run.R ?_
  refine Run.R ?_
  refine Run.loopI (X := Nat × List (List Int)) (fun x => ⟨32, [(0, true, .v (.own 0 0)), (1, true, .v (.sl false .int es)), (4, true, .v .nils), (5, true, .v (.int .i64 x.1))], [.mat hs x.2 0 true]⟩) (fun x => (x.1 ≤ es.length ∧ x.2.length = c.length ∧ ∀ k, k < c.length → (x.2.getD k []).length = c.length) ∧ okW c.length (es.drop x.1) = true ∧ withL x.2 (es.drop x.1) = withL c es) (fun x => es.length - x.1) (0, c) ⟨⟨Nat.zero_le _, rfl, hr⟩, hok, rfl⟩ ?_ ?_
  · exact Le.sub (by rfl) (by first | exact ⟨rfl, rfl, rfl, rfl⟩ | simp only [AW7, simprocAttr, hX]; try simp)
  rintro ⟨m, c'⟩ ⟨⟨hm, hcl, hrl⟩, hok', hE⟩ ih
  simp only [] at hm hcl hrl hok' hE
  refine Run.RW ?_
  refine Run.nq ?_; refine Run.cW ?_ ?_
  rotate_left
  · intro h
    have h : es.length < m + 3 := by rw [decide_eq_false_iff_not] at h; omega
    rw [withL_end _ _ (by simp; omega)] at hE
    subst hE
    refine Run.exit rfl ?_; refine Run.nq ?_
    refine Run.R ?_
    refine Run.rW [4] (hfin _ _ _ rfl rfl ⟨rfl, _, _, rfl⟩ ?_)
    exact ⟨rfl, rfl⟩
  intro h
  have h : m + 2 < es.length := by rw [decide_eq_true_eq] at h; omega
  obtain ⟨⟨p0, p1⟩, ⟨q0, q1⟩, hok2, hst⟩ := withL_drop c.length c' es m h hok'
  rw [hE] at hst
  have t1 : ((m : Int) + 1).toNat = m + 1 := by omega
  have t2 : ((m : Int) + 2).toNat = m + 2 := by omega
  refine Run.matfact 0 rfl fun hl1 hd hz => ?_
  have hrw := hrl (es.getD m 0).toNat (by omega)
  obtain ⟨q, e1, m1, x1⟩ := mat_head (i := (es.getD m 0).toNat) hl1 hd hz (by omega) (by rw [hrl _ (by omega)]; omega)
  have hl2 : hs.length = (set1 c' (es.getD m 0).toNat (es.getD (m + 1) 0).toNat (es.getD (m + 2) 0)).length := by rw [set1_len]; exact hl1
  have hv1 : (es.getD (m + 1) 0).toNat < (c'.getD (hs.idxOf (some q)) []).length := by rw [x1, hrl _ (by omega)]; omega
  have hs1 : setM hs c' q (es.getD (m + 1) 0).toNat (es.getD (m + 2) 0) = set1 c' (es.getD m 0).toNat (es.getD (m + 1) 0).toNat (es.getD (m + 2) 0) := by unfold setM set1; rw [x1]
  refine Run.nq ?_; refine Run.regionD hC true [0,1,2,3,4,5,6,7,8,9,10,11,12,13,14,15,16,17,18] (by kernel_rfl) (fun K hK => ?_); simp (disch := omega) only [wrap_id, AW7, simprocAttr, hX]; (repeat (with_reducible refine And.intro ?_ ?_); exact vc0)
  rw [e1, t1, t2]
  refine wWW ?_
  refine wE ?_; clear hK K
  rw [hs1]
  refine Run.RW ?_
  refine Run.le ?_ (ih (m + 3, set1 c' (es.getD m 0).toNat (es.getD (m + 1) 0).toNat (es.getD (m + 2) 0)) ⟨⟨by simp only []; omega, by rw [set1_len]; exact hcl, fun k hk => by rw [set1_row]; exact hrl k hk⟩, hok2, hst.symm⟩ (by simp only []; omega))
  exact Le.sub (by rfl) (by simp only [AW7, simprocAttr]; try simp)
set_option maxHeartbeats 2000000 in
theorem c_impl_TypeCartan (nm : List UInt8) (hm : nm ∈ tcN) : FunA B 155 [.str nm] (fun rs o => rs = [.own 0 0, .bool true] ∧ ∃ hs, o = [.mat hs (tcM nm) 0 true]) := by
  refine FunA.walk B_ok (fn := Tryz.f155) (fun vs w => Tryz.call155 vs w) Tryz.func155 rfl (by rw [Tryz.ntmps155]; simp) (fun C hC hP hT hΓ hbt hfn hpin hfin => ?_); have hX := BX; rw [← hΓ, ← hbt.1, ← hbt.2.1, ← hbt.2.2.1] at hX; rw [hT] at hX; rw [Tryz.ntmps155]; simp only [AW7, simprocAttr, hX]
  refine Run.R ?_
  refine Run.R ?_
  refine Run.R ?_
  refine Run.nq ?_; refine Run.cW ?_ ?_
  · intro h
    have h : nm = [65, 49] := by simpa using h
    subst h
    refine Run.nq ?_; refine Run.cW ?_ ?_
    rotate_left
    · intro h; exact absurd h (by decide)
    intro _
    refine Run.nq ?_; refine Run.regionW hC (fun K hK => ?_); refine wW ?_
    refine FunA.callW hP hT (c_impl_chain 1 (by omega)) (by simp only [AW7, simprocAttr]; try (first | rfl | trivial)) ?_
    rintro rs o ⟨rfl, hs, rfl⟩
    refine wW ?_
    refine wE ?_; clear hK K
    refine Run.reK hpin [2, 3] [0] (by decide) (by simp) ?_; simp only [AR, AW7, simprocAttr]
    refine Run.rW [2, 3] (hfin _ _ rfl rfl ?_)
    exact ⟨rfl, hs, rfl⟩
  intro n0
  have n0 : ¬ nm = [65, 49] := by simpa using n0
  refine Run.R ?_
  refine Run.nq ?_; refine Run.cW ?_ ?_
  · intro h
    have h : nm = [65, 50] := by simpa using h
    subst h
    refine Run.nq ?_; refine Run.cW ?_ ?_
    rotate_left
    · intro h; exact absurd h (by decide)
    intro _
    refine Run.nq ?_; refine Run.regionW hC (fun K hK => ?_); refine wW ?_
    refine FunA.callW hP hT (c_impl_chain 2 (by omega)) (by simp only [AW7, simprocAttr]; try (first | rfl | trivial)) ?_
    rintro rs o ⟨rfl, hs, rfl⟩
    refine wW ?_
    refine wE ?_; clear hK K
    refine Run.reK hpin [2, 3] [0] (by decide) (by simp) ?_; simp only [AR, AW7, simprocAttr]
    refine Run.rW [2, 3] (hfin _ _ rfl rfl ?_)
    exact ⟨rfl, hs, rfl⟩
  intro n1
  have n1 : ¬ nm = [65, 50] := by simpa using n1
  refine Run.R ?_
  refine Run.nq ?_; refine Run.cW ?_ ?_
  · intro h
    have h : nm = [65, 51] := by simpa using h
    subst h
    refine Run.nq ?_; refine Run.cW ?_ ?_
    rotate_left
    · intro h; exact absurd h (by decide)
    intro _
    refine Run.nq ?_; refine Run.regionW hC (fun K hK => ?_); refine wW ?_
    refine FunA.callW hP hT (c_impl_chain 3 (by omega)) (by simp only [AW7, simprocAttr]; try (first | rfl | trivial)) ?_
    rintro rs o ⟨rfl, hs, rfl⟩
    refine wW ?_
    refine wE ?_; clear hK K
    refine Run.reK hpin [2, 3] [0] (by decide) (by simp) ?_; simp only [AR, AW7, simprocAttr]
    refine Run.rW [2, 3] (hfin _ _ rfl rfl ?_)
    exact ⟨rfl, hs, rfl⟩
  intro n2
  have n2 : ¬ nm = [65, 51] := by simpa using n2
  refine Run.R ?_
  refine Run.nq ?_; refine Run.cW ?_ ?_
  · intro h
    have h : nm = [65, 52] := by simpa using h
    subst h
    refine Run.nq ?_; refine Run.regionW hC (fun K hK => ?_); refine wW ?_
    refine FunA.callW hP hT (c_impl_chain 4 (by omega)) (by simp only [AW7, simprocAttr]; try (first | rfl | trivial)) ?_
    rintro rs o ⟨rfl, hs, rfl⟩
    refine wW ?_
    refine wE ?_; clear hK K
    refine Run.reK hpin [2, 3] [0] (by decide) (by simp) ?_; simp only [AR, AW7, simprocAttr]
    refine Run.rW [2, 3] (hfin _ _ rfl rfl ?_)
    exact ⟨rfl, hs, rfl⟩
  intro n3
  have n3 : ¬ nm = [65, 52] := by simpa using n3
  refine Run.R ?_
  refine Run.nq ?_; refine Run.cW ?_ ?_
  · intro h
    have h : nm = [66, 50] := by simpa using h
    subst h
    refine Run.nq ?_; refine Run.cW ?_ ?_
    rotate_left
    · intro h; exact absurd h (by decide)
    intro _
    refine Run.R ?_
    refine Run.nq ?_; refine Run.regionW hC (fun K hK => ?_); refine wW ?_
    refine FunA.callW hP hT (c_impl_chain 2 (by omega)) (by simp only [AW7, simprocAttr]; try (first | rfl | trivial)) ?_
    rintro rs o ⟨rfl, hs, rfl⟩
    refine wW ?_
    refine FunO.callMat hP hT (c_impl_with hs (chL 2) [(1), (0), (-2)] (by decide) (by decide) (by decide) (by decide)) 0 0 (by simp only [AW7, simprocAttr]; rfl) (by simp) (by simp only [AW7, simprocAttr]; try (first | rfl | trivial)) ?_
    rintro rs o' obs' ⟨rfl, ho⟩
    injection ho with ho1 ho2; subst ho1 ho2
    refine wW ?_
    refine wE ?_; clear hK K
    refine Run.reK hpin [2, 3] [0] (by decide) (by simp) ?_; simp only [AR, AW7, simprocAttr]
    refine Run.rW [2, 3] (hfin _ _ rfl rfl ?_)
    exact ⟨rfl, hs, rfl⟩
  intro n4
  have n4 : ¬ nm = [66, 50] := by simpa using n4
  refine Run.R ?_
  refine Run.nq ?_; refine Run.cW ?_ ?_
  · intro h
    have h : nm = [66, 51] := by simpa using h
    subst h
    refine Run.nq ?_; refine Run.cW ?_ ?_
    rotate_left
    · intro h; exact absurd h (by decide)
    intro _
    refine Run.R ?_
    refine Run.nq ?_; refine Run.regionW hC (fun K hK => ?_); refine wW ?_
    refine FunA.callW hP hT (c_impl_chain 3 (by omega)) (by simp only [AW7, simprocAttr]; try (first | rfl | trivial)) ?_
    rintro rs o ⟨rfl, hs, rfl⟩
    refine wW ?_
    refine FunO.callMat hP hT (c_impl_with hs (chL 3) [(2), (1), (-2)] (by decide) (by decide) (by decide) (by decide)) 0 0 (by simp only [AW7, simprocAttr]; rfl) (by simp) (by simp only [AW7, simprocAttr]; try (first | rfl | trivial)) ?_
    rintro rs o' obs' ⟨rfl, ho⟩
    injection ho with ho1 ho2; subst ho1 ho2
    refine wW ?_
    refine wE ?_; clear hK K
    refine Run.reK hpin [2, 3] [0] (by decide) (by simp) ?_; simp only [AR, AW7, simprocAttr]
    refine Run.rW [2, 3] (hfin _ _ rfl rfl ?_)
    exact ⟨rfl, hs, rfl⟩
  intro n5
  have n5 : ¬ nm = [66, 51] := by simpa using n5
  refine Run.R ?_
  refine Run.nq ?_; refine Run.cW ?_ ?_
  · intro h
    have h : nm = [66, 52] := by simpa using h
    subst h
    refine Run.R ?_
    refine Run.nq ?_; refine Run.regionW hC (fun K hK => ?_); refine wW ?_
    refine FunA.callW hP hT (c_impl_chain 4 (by omega)) (by simp only [AW7, simprocAttr]; try (first | rfl | trivial)) ?_
    rintro rs o ⟨rfl, hs, rfl⟩
    refine wW ?_
    refine FunO.callMat hP hT (c_impl_with hs (chL 4) [(3), (2), (-2)] (by decide) (by decide) (by decide) (by decide)) 0 0 (by simp only [AW7, simprocAttr]; rfl) (by simp) (by simp only [AW7, simprocAttr]; try (first | rfl | trivial)) ?_
    rintro rs o' obs' ⟨rfl, ho⟩
    injection ho with ho1 ho2; subst ho1 ho2
    refine wW ?_
    refine wE ?_; clear hK K
    refine Run.reK hpin [2, 3] [0] (by decide) (by simp) ?_; simp only [AR, AW7, simprocAttr]
    refine Run.rW [2, 3] (hfin _ _ rfl rfl ?_)
    exact ⟨rfl, hs, rfl⟩
  intro n6
  have n6 : ¬ nm = [66, 52] := by simpa using n6
  refine Run.R ?_
  refine Run.nq ?_; refine Run.cW ?_ ?_
  · intro h
    have h : nm = [67, 51] := by simpa using h
    subst h
    refine Run.nq ?_; refine Run.cW ?_ ?_
    rotate_left
    · intro h; exact absurd h (by decide)
    intro _
    refine Run.R ?_
    refine Run.nq ?_; refine Run.regionW hC (fun K hK => ?_); refine wW ?_
    refine FunA.callW hP hT (c_impl_chain 3 (by omega)) (by simp only [AW7, simprocAttr]; try (first | rfl | trivial)) ?_
    rintro rs o ⟨rfl, hs, rfl⟩
    refine wW ?_
    refine FunO.callMat hP hT (c_impl_with hs (chL 3) [(1), (2), (-2)] (by decide) (by decide) (by decide) (by decide)) 0 0 (by simp only [AW7, simprocAttr]; rfl) (by simp) (by simp only [AW7, simprocAttr]; try (first | rfl | trivial)) ?_
    rintro rs o' obs' ⟨rfl, ho⟩
    injection ho with ho1 ho2; subst ho1 ho2
    refine wW ?_
    refine wE ?_; clear hK K
    refine Run.reK hpin [2, 3] [0] (by decide) (by simp) ?_; simp only [AR, AW7, simprocAttr]
    refine Run.rW [2, 3] (hfin _ _ rfl rfl ?_)
    exact ⟨rfl, hs, rfl⟩
  intro n7
  have n7 : ¬ nm = [67, 51] := by simpa using n7
  refine Run.R ?_
  refine Run.nq ?_; refine Run.cW ?_ ?_
  · intro h
    have h : nm = [67, 52] := by simpa using h
    subst h
    refine Run.R ?_
    refine Run.nq ?_; refine Run.regionW hC (fun K hK => ?_); refine wW ?_
    refine FunA.callW hP hT (c_impl_chain 4 (by omega)) (by simp only [AW7, simprocAttr]; try (first | rfl | trivial)) ?_
    rintro rs o ⟨rfl, hs, rfl⟩
    refine wW ?_
    refine FunO.callMat hP hT (c_impl_with hs (chL 4) [(2), (3), (-2)] (by decide) (by decide) (by decide) (by decide)) 0 0 (by simp only [AW7, simprocAttr]; rfl) (by simp) (by simp only [AW7, simprocAttr]; try (first | rfl | trivial)) ?_
    rintro rs o' obs' ⟨rfl, ho⟩
    injection ho with ho1 ho2; subst ho1 ho2
    refine wW ?_
    refine wE ?_; clear hK K
    refine Run.reK hpin [2, 3] [0] (by decide) (by simp) ?_; simp only [AR, AW7, simprocAttr]
    refine Run.rW [2, 3] (hfin _ _ rfl rfl ?_)
    exact ⟨rfl, hs, rfl⟩
  intro n8
  have n8 : ¬ nm = [67, 52] := by simpa using n8
  refine Run.R ?_
  refine Run.nq ?_; refine Run.cW ?_ ?_
  · intro h
    have h : nm = [68, 52] := by simpa using h
    subst h
    refine Run.nq ?_; refine Run.regionW hC (fun K hK => ?_); refine wW ?_
    refine FunA.callW hP hT (c_impl_chain 4 (by omega)) (by simp only [AW7, simprocAttr]; try (first | rfl | trivial)) ?_
    rintro rs o ⟨rfl, hs, rfl⟩
    refine wW ?_
    refine FunO.callMat hP hT (c_impl_with hs (chL 4) [(2), (3), (0), (3), (2), (0), (1), (3), (-1), (3), (1), (-1)] (by decide) (by decide) (by decide) (by decide)) 0 0 (by simp only [AW7, simprocAttr]; rfl) (by simp) (by simp only [AW7, simprocAttr]; try (first | rfl | trivial)) ?_
    rintro rs o' obs' ⟨rfl, ho⟩
    injection ho with ho1 ho2; subst ho1 ho2
    refine wW ?_
    refine wE ?_; clear hK K
    refine Run.reK hpin [2, 3] [0] (by decide) (by simp) ?_; simp only [AR, AW7, simprocAttr]
    refine Run.rW [2, 3] (hfin _ _ rfl rfl ?_)
    exact ⟨rfl, hs, rfl⟩
  intro n9
  have n9 : ¬ nm = [68, 52] := by simpa using n9
  refine Run.R ?_
  refine Run.nq ?_; refine Run.cW ?_ ?_
  · intro h
    have h : nm = [70, 52] := by simpa using h
    subst h
    refine Run.nq ?_; refine Run.regionW hC (fun K hK => ?_); refine wW ?_
    refine FunA.callW hP hT (c_impl_chain 4 (by omega)) (by simp only [AW7, simprocAttr]; try (first | rfl | trivial)) ?_
    rintro rs o ⟨rfl, hs, rfl⟩
    refine wW ?_
    refine FunO.callMat hP hT (c_impl_with hs (chL 4) [(2), (1), (-2)] (by decide) (by decide) (by decide) (by decide)) 0 0 (by simp only [AW7, simprocAttr]; rfl) (by simp) (by simp only [AW7, simprocAttr]; try (first | rfl | trivial)) ?_
    rintro rs o' obs' ⟨rfl, ho⟩
    injection ho with ho1 ho2; subst ho1 ho2
    refine wW ?_
    refine wE ?_; clear hK K
    refine Run.reK hpin [2, 3] [0] (by decide) (by simp) ?_; simp only [AR, AW7, simprocAttr]
    refine Run.rW [2, 3] (hfin _ _ rfl rfl ?_)
    exact ⟨rfl, hs, rfl⟩
  intro n10
  have n10 : ¬ nm = [70, 52] := by simpa using n10
  refine Run.R ?_
  refine Run.nq ?_; refine Run.cW ?_ ?_
  · intro h
    have h : nm = [71, 50] := by simpa using h
    subst h
    refine Run.nq ?_; refine Run.regionW hC (fun K hK => ?_); refine wW ?_
    refine FunA.callW hP hT (c_impl_chain 2 (by omega)) (by simp only [AW7, simprocAttr]; try (first | rfl | trivial)) ?_
    rintro rs o ⟨rfl, hs, rfl⟩
    refine wW ?_
    refine FunO.callMat hP hT (c_impl_with hs (chL 2) [(1), (0), (-3)] (by decide) (by decide) (by decide) (by decide)) 0 0 (by simp only [AW7, simprocAttr]; rfl) (by simp) (by simp only [AW7, simprocAttr]; try (first | rfl | trivial)) ?_
    rintro rs o' obs' ⟨rfl, ho⟩
    injection ho with ho1 ho2; subst ho1 ho2
    refine wW ?_
    refine wE ?_; clear hK K
    refine Run.reK hpin [2, 3] [0] (by decide) (by simp) ?_; simp only [AR, AW7, simprocAttr]
    refine Run.rW [2, 3] (hfin _ _ rfl rfl ?_)
    exact ⟨rfl, hs, rfl⟩
  intro n11
  have n11 : ¬ nm = [71, 50] := by simpa using n11
  refine Run.R ?_
  refine Run.nq ?_; refine Run.cW ?_ ?_
  · intro h
    have h : nm = [65, 49, 126] := by simpa using h
    subst h
    refine Run.nq ?_; refine Run.regionW hC (fun K hK => ?_); refine wW ?_
    refine FunA.callW hP hT (c_impl_chain 2 (by omega)) (by simp only [AW7, simprocAttr]; try (first | rfl | trivial)) ?_
    rintro rs o ⟨rfl, hs, rfl⟩
    refine wW ?_
    refine FunO.callMat hP hT (c_impl_with hs (chL 2) [(0), (1), (-2), (1), (0), (-2)] (by decide) (by decide) (by decide) (by decide)) 0 0 (by simp only [AW7, simprocAttr]; rfl) (by simp) (by simp only [AW7, simprocAttr]; try (first | rfl | trivial)) ?_
    rintro rs o' obs' ⟨rfl, ho⟩
    injection ho with ho1 ho2; subst ho1 ho2
    refine wW ?_
    refine wE ?_; clear hK K
    refine Run.reK hpin [2, 3] [0] (by decide) (by simp) ?_; simp only [AR, AW7, simprocAttr]
    refine Run.rW [2, 3] (hfin _ _ rfl rfl ?_)
    exact ⟨rfl, hs, rfl⟩
  intro n12
  have n12 : ¬ nm = [65, 49, 126] := by simpa using n12
  refine Run.R ?_
  refine Run.nq ?_; refine Run.cW ?_ ?_
  · intro h
    have h : nm = [65, 50, 126] := by simpa using h
    subst h
    refine Run.nq ?_; refine Run.regionW hC (fun K hK => ?_); refine wW ?_
    refine FunA.callW hP hT (c_impl_chain 3 (by omega)) (by simp only [AW7, simprocAttr]; try (first | rfl | trivial)) ?_
    rintro rs o ⟨rfl, hs, rfl⟩
    refine wW ?_
    refine FunO.callMat hP hT (c_impl_with hs (chL 3) [(0), (2), (-1), (2), (0), (-1)] (by decide) (by decide) (by decide) (by decide)) 0 0 (by simp only [AW7, simprocAttr]; rfl) (by simp) (by simp only [AW7, simprocAttr]; try (first | rfl | trivial)) ?_
    rintro rs o' obs' ⟨rfl, ho⟩
    injection ho with ho1 ho2; subst ho1 ho2
    refine wW ?_
    refine wE ?_; clear hK K
    refine Run.reK hpin [2, 3] [0] (by decide) (by simp) ?_; simp only [AR, AW7, simprocAttr]
    refine Run.rW [2, 3] (hfin _ _ rfl rfl ?_)
    exact ⟨rfl, hs, rfl⟩
  intro n13
  have n13 : ¬ nm = [65, 50, 126] := by simpa using n13
  refine Run.R ?_
  refine Run.nq ?_; refine Run.cW ?_ ?_
  · intro h
    have h : nm = [65, 51, 126] := by simpa using h
    subst h
    refine Run.nq ?_; refine Run.regionW hC (fun K hK => ?_); refine wW ?_
    refine FunA.callW hP hT (c_impl_chain 4 (by omega)) (by simp only [AW7, simprocAttr]; try (first | rfl | trivial)) ?_
    rintro rs o ⟨rfl, hs, rfl⟩
    refine wW ?_
    refine FunO.callMat hP hT (c_impl_with hs (chL 4) [(0), (3), (-1), (3), (0), (-1)] (by decide) (by decide) (by decide) (by decide)) 0 0 (by simp only [AW7, simprocAttr]; rfl) (by simp) (by simp only [AW7, simprocAttr]; try (first | rfl | trivial)) ?_
    rintro rs o' obs' ⟨rfl, ho⟩
    injection ho with ho1 ho2; subst ho1 ho2
    refine wW ?_
    refine wE ?_; clear hK K
    refine Run.reK hpin [2, 3] [0] (by decide) (by simp) ?_; simp only [AR, AW7, simprocAttr]
    refine Run.rW [2, 3] (hfin _ _ rfl rfl ?_)
    exact ⟨rfl, hs, rfl⟩
  intro n14
  have n14 : ¬ nm = [65, 51, 126] := by simpa using n14
  refine Run.R ?_
  refine Run.nq ?_; refine Run.cW ?_ ?_
  · intro h
    have h : nm = [67, 50, 126] := by simpa using h
    subst h
    refine Run.nq ?_; refine Run.regionW hC (fun K hK => ?_); refine wW ?_
    refine FunA.callW hP hT (c_impl_chain 3 (by omega)) (by simp only [AW7, simprocAttr]; try (first | rfl | trivial)) ?_
    rintro rs o ⟨rfl, hs, rfl⟩
    refine wW ?_
    refine FunO.callMat hP hT (c_impl_with hs (chL 3) [(1), (0), (-2), (1), (2), (-2)] (by decide) (by decide) (by decide) (by decide)) 0 0 (by simp only [AW7, simprocAttr]; rfl) (by simp) (by simp only [AW7, simprocAttr]; try (first | rfl | trivial)) ?_
    rintro rs o' obs' ⟨rfl, ho⟩
    injection ho with ho1 ho2; subst ho1 ho2
    refine wW ?_
    refine wE ?_; clear hK K
    refine Run.reK hpin [2, 3] [0] (by decide) (by simp) ?_; simp only [AR, AW7, simprocAttr]
    refine Run.rW [2, 3] (hfin _ _ rfl rfl ?_)
    exact ⟨rfl, hs, rfl⟩
  intro n15
  have n15 : ¬ nm = [67, 50, 126] := by simpa using n15
  refine Run.R ?_
  refine Run.nq ?_; refine Run.cW ?_ ?_
  · intro h
    have h : nm = [71, 50, 126] := by simpa using h
    subst h
    refine Run.nq ?_; refine Run.regionW hC (fun K hK => ?_); refine wW ?_
    refine FunA.callW hP hT (c_impl_chain 3 (by omega)) (by simp only [AW7, simprocAttr]; try (first | rfl | trivial)) ?_
    rintro rs o ⟨rfl, hs, rfl⟩
    refine wW ?_
    refine FunO.callMat hP hT (c_impl_with hs (chL 3) [(2), (1), (-3)] (by decide) (by decide) (by decide) (by decide)) 0 0 (by simp only [AW7, simprocAttr]; rfl) (by simp) (by simp only [AW7, simprocAttr]; try (first | rfl | trivial)) ?_
    rintro rs o' obs' ⟨rfl, ho⟩
    injection ho with ho1 ho2; subst ho1 ho2
    refine wW ?_
    refine wE ?_; clear hK K
    refine Run.reK hpin [2, 3] [0] (by decide) (by simp) ?_; simp only [AR, AW7, simprocAttr]
    refine Run.rW [2, 3] (hfin _ _ rfl rfl ?_)
    exact ⟨rfl, hs, rfl⟩
  intro n16
  have n16 : ¬ nm = [71, 50, 126] := by simpa using n16
  exact absurd hm (by simp [tcN, n0, n1, n2, n3, n4, n5, n6, n7, n8, n9, n10, n11, n12, n13, n14, n15, n16])
end Go.Proofs.YtaghdbbcadhjdaaGreatDoor
namespace Go.Proofs.YtaghdbbcadhjdaaGreatDoor
open Go Go.Aw Go.Cox
def setM (k i : Nat) : List Int := ((List.range i).filter fun j => k.testBit j).map Int.ofNat
theorem setM_succ (k i : Nat) : setM k (i + 1) = if k.testBit i then setM k i ++ [(i : Int)] else setM k i := by
  simp only [setM, List.range_succ, List.filter_append, List.map_append]
  cases h : k.testBit i <;> simp [h]
theorem setM_len (k i : Nat) : (setM k i).length ≤ i := by
  simp only [setM, List.length_map]
  have := List.length_filter_le (fun j => k.testBit j) (List.range i)
  simpa using this
theorem setM_end : ∀ k : Nat, k < 16 → ∀ i, i ≤ 4 → k < 2 ^ i → setM k i = setL k := by decide
theorem setL_ne : ∀ k : Nat, k < 16 → 1 ≤ k → setL k ≠ [] := by decide
theorem bit_and : ∀ k : Nat, k < 16 → ∀ i, i < 4 → (andI .i64 ((k : Int) / 2 ^ min i IntKind.i64.bits) 1 == 1) = k.testBit i := by decide
theorem shr_pos : ∀ k : Nat, k < 16 → ∀ i, i ≤ 4 → (decide (0 < (k : Int) / 2 ^ min i IntKind.i64.bits) = decide (2 ^ i ≤ k)) := by decide
theorem c_impl_setOf (k : Nat) (hk : k < 16) : FunA B 127 [.int .i64 k] (fun rs o => rs = [.own 0 0] ∧ o = [.arr .int (setL k) 0 true]) := by
  refine FunA.walk B_ok (fn := Tryz.f127) (fun vs w => Tryz.call127 vs w) Tryz.func127 rfl (by rw [Tryz.ntmps127]; simp) (fun C hC hP hT hΓ hbt hfn hpin hfin => ?_); have hX := BX; rw [← hΓ, ← hbt.1, ← hbt.2.1, ← hbt.2.2.1] at hX; rw [hT] at hX; rw [Tryz.ntmps127]; simp only [AW7, simprocAttr, hX]
  refine Run.R ?_
  refine Run.R ?_
  refine Run.R ?_
  refine Run.loopI (X := Nat) (fun i => ⟨22, [(0, true, .v (.int .i64 (k))), (2, true, .v (.nils)), (3, true, .v (.own 0 0)), (4, true, .v (.int .i64 (i)))], [.arr .int ((setM k i)) 0 true]⟩) (fun i => i ≤ 4) (fun i => 4 - i) (0) (Nat.zero_le _) ?_ ?_
  · exact Le.sub (by first | rfl | simp) (by simp only [AW7, simprocAttr, hX]; try simp <;> try (first | rfl | exact ⟨rfl, rfl⟩ | exact ⟨rfl, rfl, rfl⟩))
  rintro i hi ih
  try simp only []
  have hsl := setM_len k i
  have h1 := shr_pos k hk i hi
  refine Run.R ?_
  refine Run.nq ?_; refine Run.cW ?_ ?_
  · intro hc
    rw [h1] at hc
    have hc : 2 ^ i ≤ k := by simpa using hc
    have h4 : i < 4 := by
      rcases Nat.lt_or_ge i 4 with h | h
      · exact h
      · have : i = 4 := by omega
        subst this; omega
    have h2 := bit_and k hk i h4
    have h3 := setM_succ k i
    refine Run.R ?_
    refine Run.nq ?_; refine Run.cW ?_ ?_
    · intro hb
      rw [h2] at hb
      rw [hb, if_pos rfl] at h3
      refine Run.R ?_
      refine Run.RW ?_
      refine Run.reK hpin [0, 2, 3, 4] [0] (by decide) (by simp) ?_; simp only [AR, AW7, simprocAttr]
      refine Run.le ?_ (ih (i + 1) (by omega) (by (try simp only [List.length_append, List.length_cons, List.length_nil]); omega))
      exact Le.sub (by first | rfl | (simp only [← h3]; done) | (rw [← h3]; rfl)) (by simp only [AW7, simprocAttr]; try simp)
    · intro hb
      rw [h2] at hb
      rw [hb] at h3
      refine Run.RW ?_
      refine Run.le ?_ (ih (i + 1) (by omega) (by (try simp only [List.length_append, List.length_cons, List.length_nil]); omega))
      exact Le.sub (by first | rfl | (simp only [h3]; done) | (rw [h3]; rfl)) (by simp only [AW7, simprocAttr]; try simp)
  · intro hc
    rw [h1] at hc
    have hc : k < 2 ^ i := by simpa using hc
    refine Run.exit rfl ?_; refine Run.nq ?_
    refine Run.R ?_
    rw [setM_end k hk i hi hc]
    refine Run.rW [2] (hfin _ _ rfl rfl ?_)
    exact ⟨rfl, rfl⟩
end Go.Proofs.YtaghdbbcadhjdaaGreatDoor
namespace Go.Proofs.YtaghdbbcadhjdaaGreatDoor
open Go Go.Aw Go.Cox
def rowP (c : List (List Int)) (s : List Int) (i : Int) : List Int := s.map fun j => ent c i.toNat j.toNat
theorem map_snoc {α β : Type} (f : α → β) (s : List α) (d : α) (k : Nat) (h : k < s.length) : (s.take k).map f ++ [f (s.getD k d)] = (s.take (k + 1)).map f := by
  rw [← take_snoc d s k h]; simp
theorem letters_mem {n : Nat} {s : List Int} (h : letters n s) {k : Nat} (hk : k < s.length) : 0 ≤ s.getD k 0 ∧ s.getD k 0 < n := h _ (getD_mem hk)
theorem c_impl_picked (c : List (List Int)) (s : List Int) (hcl : c.length ≤ 4) (hc : ∀ i, i < c.length → (c.getD i []).length = c.length) (hs : letters c.length s) (hl : s.length ≤ 1048576) :
    FunA B 132 [.sl false (.row false) c, .sl false .int s] (fun rs o => rs = [.own 0 0] ∧ ∃ ys, ys.map (·.2) = pick c s ∧ o = [.arr .lrow ys 0 true]) := by
  refine FunA.walk B_ok (fn := Tryz.f132) (fun vs w => Tryz.call132 vs w) Tryz.func132 rfl (by rw [Tryz.ntmps132]; simp) (fun C hC hP hT hΓ hbt hfn hpin hfin => ?_); have hX := BX; rw [← hΓ, ← hbt.1, ← hbt.2.1, ← hbt.2.2.1] at hX; rw [hT] at hX; rw [Tryz.ntmps132]; simp only [AW7, simprocAttr, hX]
  refine Run.R ?_
  refine Run.R ?_
  refine Run.R ?_
  refine Run.loopI (X := Nat × List (Nat × List Int)) (fun m => ⟨42, [(0, true, .v (.sl false (.row false) (c))), (1, true, .v (.sl false .int (s))), (4, true, .v (.nils)), (5, true, .v (.own 0 0)), (12, true, .v (.sl false .int (s))), (13, true, .v (.int .i64 (s.length))), (14, true, .v (.int .i64 (m.1)))], [.arr .lrow (m.2) 0 true]⟩) (fun m => m.1 ≤ s.length ∧ m.2.map (·.2) = (s.take m.1).map (rowP c s)) (fun m => s.length - m.1) ((0, [])) (⟨Nat.zero_le _, rfl⟩) ?_ ?_
  · exact Le.sub (by first | rfl | simp) (by simp only [AW7, simprocAttr, hX]; try simp <;> try (first | rfl | exact ⟨rfl, rfl⟩ | exact ⟨rfl, rfl, rfl⟩))
  rintro ⟨m, ys⟩ ⟨hm, hy⟩ ih
  try simp only []
  simp only [] at hm hy
  have hyl : ys.length = m := by have := congrArg List.length hy; simpa [hm] using this
  refine Run.R ?_
  refine Run.nq ?_; refine Run.cW ?_ ?_
  · intro h
    have h : m < s.length := by simpa using h
    obtain ⟨a1, a2⟩ := letters_mem hs h
    have hr := hc (s.getD m 0).toNat (by omega)
    refine Run.R ?_
    refine Run.R ?_
    refine Run.R ?_
    refine Run.reK hpin [0, 1, 4, 5, 7, 8, 12, 13, 14, 19, 20, 21] [0, 1] (by decide) (by simp) ?_; simp only [AR, AW7, simprocAttr]
    refine Run.loopI (X := Nat) (fun k => ⟨42, [(0, true, .v (.sl false (.row false) (c))), (1, true, .v (.sl false .int (s))), (4, true, .v (.nils)), (5, true, .v (.own 0 0)), (7, true, .v (.int .i64 ((s.getD m 0)))), (8, true, .v (.own 1 0)), (12, true, .v (.sl false .int (s))), (13, true, .v (.int .i64 (s.length))), (14, true, .v (.int .i64 (m))), (19, true, .v (.sl false .int (s))), (20, true, .v (.int .i64 (s.length))), (21, true, .v (.int .i64 (k)))], [.arr .lrow (ys) 0 true, .arr .int (((s.take k).map fun j => ent c (s.getD m 0).toNat j.toNat)) 0 true]⟩) (fun k => k ≤ s.length) (fun k => s.length - k) (0) (Nat.zero_le _) ?_ ?_
    · exact Le.sub (by first | rfl | simp) (by simp only [AW7, simprocAttr, hX]; try simp <;> try (first | rfl | exact ⟨rfl, rfl⟩ | exact ⟨rfl, rfl, rfl⟩))
    rintro k hk ih2
    try simp only []
    refine Run.R ?_
    refine Run.nq ?_; refine Run.cW ?_ ?_
    · intro h2
      have h2 : k < s.length := by simpa using h2
      obtain ⟨b1, b2⟩ := letters_mem hs h2
      have hsn := map_snoc (fun j => ent c (s.getD m 0).toNat j.toNat) s 0 k h2
      refine Run.R ?_
      refine Run.R ?_
      refine Run.RW ?_
      refine Run.reK hpin [0, 1, 4, 5, 7, 8, 12, 13, 14, 19, 20, 21] [0, 1] (by decide) (by simp) ?_; simp only [AR, AW7, simprocAttr]
      refine Run.le ?_ (ih2 (k + 1) (by omega) (by omega))
      exact Le.sub (by rw [← hsn]) (by simp only [AW7, simprocAttr]; try simp)
    · intro h2
      have h2 : k = s.length := by simp at h2; omega
      subst h2
      rw [List.take_length]
      refine Run.exit rfl ?_; refine Run.nq ?_
      refine Run.nq ?_; refine Run.regionW hC (fun K hK => ?_); refine wW ?_
      intro l hl
      refine wW ?_
      refine wE ?_; clear hK K
      refine Run.RW ?_
      refine Run.reK hpin [0, 1, 4, 5, 12, 13, 14] [0] (by decide) (by simp) ?_; simp only [AR, AW7, simprocAttr]
      refine Run.le ?_ (ih (m + 1, ys ++ [(l, rowP c s (s.getD m 0))]) ⟨h, by simp only [List.map_append, hy, List.map_cons, List.map_nil]; exact map_snoc (rowP c s) s 0 m h⟩ (by simp only []; omega))
      exact Le.sub (by rfl) (by simp only [AW7, simprocAttr]; try simp)
  · intro h
    have h : m = s.length := by simp at h; omega
    subst h
    rw [List.take_length] at hy
    refine Run.exit rfl ?_; refine Run.nq ?_
    refine Run.R ?_
    refine Run.rW [4] (hfin _ _ rfl rfl ?_)
    exact ⟨rfl, ys, hy, rfl⟩
def bnd : Nat → Int
  | 0 => 1
  | n + 1 => 3 * (n + 1) * bnd n
theorem bnd_pos : ∀ n, 0 ≤ bnd n
  | 0 => by decide
  | n + 1 => by have := bnd_pos n; unfold bnd; have : (0 : Int) ≤ 3 * (n + 1) := by omega
                exact Int.mul_nonneg this (bnd_pos n)
def Sq (n : Nat) (m : List (List Int)) : Prop := m.length = n ∧ ∀ r ∈ m, r.length = n ∧ ∀ x ∈ r, -3 ≤ x ∧ x ≤ 3
theorem Sq.minor {n : Nat} {m : List (List Int)} (h : Sq (n + 1) m) (j : Nat) (hj : j < n + 1) : Sq n (minorL m j) := by
  refine ⟨by simp [minorL, h.1], fun r hr => ?_⟩
  simp only [minorL, List.mem_map] at hr
  obtain ⟨r0, h0, rfl⟩ := hr
  obtain ⟨h1, h2⟩ := h.2 r0 (List.mem_of_mem_drop h0)
  refine ⟨by simp [h1]; omega, fun x hx => ?_⟩
  rcases List.mem_append.1 hx with hx | hx
  · exact h2 x (List.mem_of_mem_take hx)
  · exact h2 x (List.mem_of_mem_drop hx)
def sgn (j : Nat) : Int := if j % 2 = 1 then -1 else 1
def detS (n : Nat) (m : List (List Int)) (j : Nat) : Int := (List.range j).foldl (fun s j => s + sgn j * (m.getD 0 []).getD j 0 * detN n (minorL m j)) 0
theorem detS_succ (n : Nat) (m : List (List Int)) (j : Nat) : detS n m (j + 1) = detS n m j + sgn j * (m.getD 0 []).getD j 0 * detN n (minorL m j) := by
  simp [detS, List.range_succ]
theorem detN_eq (n : Nat) (m : List (List Int)) : detN (n + 1) m = detS n m (n + 1) := rfl
theorem sgn_cases (j : Nat) : sgn j = 1 ∨ sgn j = -1 := by unfold sgn; split <;> simp
theorem sgn_succ (j : Nat) : sgn (j + 1) = -sgn j := by unfold sgn; rcases Nat.mod_two_eq_zero_or_one j with h | h <;> simp [h, Nat.add_mod]
theorem abs_mul3 {x d b : Int} (hx : -3 ≤ x ∧ x ≤ 3) (hd : -b ≤ d ∧ d ≤ b) : -(3 * b) ≤ x * d ∧ x * d ≤ 3 * b := by
  obtain ⟨h1, h2⟩ := hx
  have : x = -3 ∨ x = -2 ∨ x = -1 ∨ x = 0 ∨ x = 1 ∨ x = 2 ∨ x = 3 := by omega
  rcases this with rfl | rfl | rfl | rfl | rfl | rfl | rfl <;> omega
theorem det_le : ∀ (n : Nat) (m : List (List Int)), Sq n m → -bnd n ≤ detN n m ∧ detN n m ≤ bnd n
  | 0, m, _ => by simp [detN, bnd]
  | n + 1, m, h => by
    have key : ∀ j, j ≤ n + 1 → -(3 * j * bnd n) ≤ detS n m j ∧ detS n m j ≤ 3 * j * bnd n := by
      intro j
      induction j with
      | zero => intro _; simp [detS]
      | succ j ih =>
        intro hj
        obtain ⟨i1, i2⟩ := ih (by omega)
        have hd := det_le n _ (h.minor j (by omega))
        have hr : m.getD 0 [] ∈ m := by
          have : 0 < m.length := by rw [h.1]; omega
          simp [List.getD_eq_getElem?_getD, this]
        obtain ⟨r1, r2⟩ := h.2 _ hr
        have hx := r2 _ (getD_mem (w := m.getD 0 []) (i := j) (by omega))
        have h3 := abs_mul3 hx hd
        rw [detS_succ]
        have e : (3 : Int) * ((j + 1 : Nat) : Int) * bnd n = 3 * j * bnd n + 3 * bnd n := by push_cast; grind
        rw [e]
        rcases sgn_cases j with hs | hs <;> rw [hs]
        · rw [Int.one_mul]; omega
        · rw [Int.neg_mul, Int.one_mul, Int.neg_mul]; omega
    have := key (n + 1) (Nat.le_refl _)
    rw [detN_eq]
    simpa [bnd] using this
theorem bnd_le : ∀ n : Nat, n ≤ 4 → bnd n ≤ 1944 := by decide
theorem detS_le {n : Nat} {m : List (List Int)} (h : Sq (n + 1) m) (hn : n + 1 ≤ 4) : ∀ j, j ≤ n + 1 → -7776 ≤ detS n m j ∧ detS n m j ≤ 7776 := by
  intro j
  have hb := bnd_le n (by omega)
  have hb0 := bnd_pos n
  have key : ∀ j, j ≤ n + 1 → -((j : Int) * 1944) ≤ detS n m j ∧ detS n m j ≤ (j : Int) * 1944 := by
    have hbn : 3 * bnd n ≤ 1944 := by
      have : ∀ n : Nat, n ≤ 3 → 3 * bnd n ≤ 1944 := by decide
      exact this n (by omega)
    intro j
    induction j with
    | zero => intro _; simp [detS]
    | succ j ih =>
      intro hj
      obtain ⟨i1, i2⟩ := ih (by omega)
      have hd := det_le n _ (h.minor j (by omega))
      have hr : m.getD 0 [] ∈ m := by
        have : 0 < m.length := by rw [h.1]; omega
        simp [List.getD_eq_getElem?_getD, this]
      obtain ⟨r1, r2⟩ := h.2 _ hr
      have hx := r2 _ (getD_mem (w := m.getD 0 []) (i := j) (by omega))
      have h3 := abs_mul3 hx hd
      rw [detS_succ]
      rcases sgn_cases j with hs | hs <;> rw [hs]
      · rw [Int.one_mul]; push_cast; omega
      · rw [Int.neg_mul, Int.one_mul, Int.neg_mul]; push_cast; omega
  intro hj
  have := key j hj
  omega
theorem det_term {n : Nat} {m : List (List Int)} (h : Sq (n + 1) m) (hn : n + 1 ≤ 4) (j : Nat) (hj : j < n + 1) : (-3 ≤ (m.getD 0 []).getD j 0 ∧ (m.getD 0 []).getD j 0 ≤ 3) ∧ (-1944 ≤ detN n (minorL m j) ∧ detN n (minorL m j) ≤ 1944) ∧
    (-1944 ≤ (m.getD 0 []).getD j 0 * detN n (minorL m j) ∧ (m.getD 0 []).getD j 0 * detN n (minorL m j) ≤ 1944) ∧ (m.getD 0 []).length = n + 1 := by
  have hr : m.getD 0 [] ∈ m := by
    have : 0 < m.length := by rw [h.1]; omega
    simp [List.getD_eq_getElem?_getD, this]
  obtain ⟨r1, r2⟩ := h.2 _ hr
  have hx := r2 _ (getD_mem (w := m.getD 0 []) (i := j) (by omega))
  have hd := det_le n _ (h.minor j hj)
  have hb : 3 * bnd n ≤ 1944 := by
    have : ∀ n : Nat, n ≤ 3 → 3 * bnd n ≤ 1944 := by decide
    exact this n (by omega)
  have hb0 := bnd_pos n
  have h3 := abs_mul3 hx hd
  exact ⟨hx, by omega, by omega, r1⟩
theorem c_impl_determinant (n : Nat) : ∀ (m : List (List Int)), n ≤ 4 → Sq n m → FunA B 151 [.sl false (.row false) m] (fun rs o => rs = [.int .i64 (detN n m)] ∧ o = []) := by
  induction n with
  | zero =>
    intro m _ hm
    have hm0 : m = [] := List.eq_nil_of_length_eq_zero hm.1
    subst hm0
    refine FunA.walk B_ok (fn := Tryz.f151) (fun vs w => Tryz.call151 vs w) Tryz.func151 rfl (by rw [Tryz.ntmps151]; simp) (fun C hC hP hT hΓ hbt hfn hpin hfin => ?_); have hX := BX; rw [← hΓ, ← hbt.1, ← hbt.2.1, ← hbt.2.2.1] at hX; rw [hT] at hX; rw [Tryz.ntmps151]; simp only [AW7, simprocAttr, hX]
    refine Run.R ?_
    refine Run.R ?_
    refine Run.nq ?_; refine Run.cW ?_ ?_
    · intro h
      refine Run.R ?_
      refine Run.rW [2] (hfin _ _ rfl rfl ?_)
      exact ⟨rfl, rfl⟩
    · intro h
      simp at h
  | succ n ihn =>
    intro m hn hm
    have hml := hm.1
    refine FunA.walk B_ok (fn := Tryz.f151) (fun vs w => Tryz.call151 vs w) Tryz.func151 rfl (by rw [Tryz.ntmps151]; simp) (fun C hC hP hT hΓ hbt hfn hpin hfin => ?_); have hX := BX; rw [← hΓ, ← hbt.1, ← hbt.2.1, ← hbt.2.2.1] at hX; rw [hT] at hX; rw [Tryz.ntmps151]; simp only [AW7, simprocAttr, hX]
    refine Run.R ?_
    refine Run.R ?_
    refine Run.nq ?_; refine Run.cW ?_ ?_
    · intro h
      simp [hml] at h
      omega
    intro h
    clear h
    have hr0 := (det_term hm hn 0 (by omega)).2.2.2
    have hS0 : detS n m 0 = 0 := rfl
    have hg0 : sgn 0 = 1 := rfl
    refine Run.R ?_
    refine Run.R ?_
    rw [show ((m.getD 0 []).length : Int) = ((n + 1 : Nat) : Int) from by rw [hr0]]
    refine Run.le (Le.sub (fr' := [(0, true, .v (.sl false (.row false) m)), (2, true, .v (.int .i64 0)), (3, true, .v (.int .i64 (detS n m 0))), (4, true, .v (.int .i64 (sgn 0))), (15, true, .v (.sl false .int (m.getD 0 []))), (16, true, .v (.int .i64 (n + 1 : Nat))), (17, true, .v (.int .i64 (0 : Nat)))]) rfl (by simp only [AW7, simprocAttr]; simp [hS0, hg0])) ?_
    refine Run.loopI (X := Nat) (fun j => ⟨58, [(0, true, .v (.sl false (.row false) (m))), (2, true, .v (.int .i64 (0))), (3, true, .v (.int .i64 ((detS n m j)))), (4, true, .v (.int .i64 ((sgn j)))), (15, true, .v (.sl false .int ((m.getD 0 [])))), (16, true, .v (.int .i64 (((n + 1 : Nat))))), (17, true, .v (.int .i64 (j)))], []⟩) (fun j => j ≤ n + 1) (fun j => n + 1 - j) (0) (Nat.zero_le _) ?_ ?_
    · exact Le.sub (by first | rfl | simp) (by simp only [AW7, simprocAttr, hX]; try simp <;> try (first | rfl | exact ⟨rfl, rfl⟩ | exact ⟨rfl, rfl, rfl⟩))
    rintro j hj ih
    try simp only []
    refine Run.R ?_
    refine Run.nq ?_; refine Run.cW ?_ ?_
    · intro h
      have h : j < n + 1 := by simp at h; omega
      obtain ⟨t1, t2, t3, t4⟩ := det_term hm hn j h
      obtain ⟨d1, d2⟩ := detS_le hm hn j (by omega)
      obtain ⟨e1, e2⟩ := detS_le hm hn (j + 1) (by omega)
      have hsn := detS_succ n m j
      have hss := sgn_succ j
      have hsq := hm.minor j h
      have hsc := sgn_cases j
      have hp1 : -3 ≤ sgn j * (m.getD 0 []).getD j 0 ∧ sgn j * (m.getD 0 []).getD j 0 ≤ 3 := by rcases hsc with hs | hs <;> rw [hs] <;> omega
      refine Run.R ?_
      refine Run.R ?_
      refine Run.nq ?_; refine Run.cW ?_ ?_
      · intro hx
        have hx : (m.getD 0 []).getD j 0 ≠ 0 := by simpa using hx
        refine Run.R ?_
        refine Run.R ?_
        have htl : List.take (m.length - 1) (m.drop 1) = m.drop 1 := List.take_of_length_le (by simp)
        have htn : (m.drop 1).length = n := by simp [hml]
        have ht2 : List.take n m.tail = m.tail := List.take_of_length_le (by simp [hml])
        refine Run.keep [0, 2, 3, 4, 5, 6, 7, 15, 16, 17, 26, 27, 28] ?_; simp only [AK, Nat.reduceBEq]
        refine Run.le (Le.sub (fr' := [(0, true, .v (.sl false (.row false) m)), (2, true, .v (.int .i64 0)), (3, true, .v (.int .i64 (detS n m j))), (4, true, .v (.int .i64 (sgn j))), (5, true, .v (.int .i64 j)), (6, true, .v (.int .i64 ((m.getD 0 []).getD j 0))), (7, true, .v (.own 0 0)), (15, true, .v (.sl false .int (m.getD 0 []))), (16, true, .v (.int .i64 (n + 1 : Nat))), (17, true, .v (.int .i64 j)), (26, true, .v (.sl false (.row false) (m.drop 1))), (27, true, .v (.int .i64 n)), (28, true, .v (.int .i64 (0 : Nat)))]) rfl (by simp only [AW7, simprocAttr]; simp [htl, htn, hml, ht2])) ?_
        refine Run.loopI (X := Nat × List (Nat × List Int)) (fun k => ⟨58, [(0, true, .v (.sl false (.row false) (m))), (2, true, .v (.int .i64 (0))), (3, true, .v (.int .i64 ((detS n m j)))), (4, true, .v (.int .i64 ((sgn j)))), (5, true, .v (.int .i64 (j))), (6, true, .v (.int .i64 (((m.getD 0 []).getD j 0)))), (7, true, .v (.own 0 0)), (15, true, .v (.sl false .int ((m.getD 0 [])))), (16, true, .v (.int .i64 (((n + 1 : Nat))))), (17, true, .v (.int .i64 (j))), (26, true, .v (.sl false (.row false) ((m.drop 1)))), (27, true, .v (.int .i64 (n))), (28, true, .v (.int .i64 (k.1)))], [.arr .lrow (k.2) 0 true]⟩) (fun k => k.1 ≤ n ∧ k.2.map (·.2) = ((m.drop 1).take k.1).map (fun r => r.take j ++ r.drop (j + 1))) (fun k => n - k.1) ((0, [])) (⟨Nat.zero_le _, rfl⟩) ?_ ?_
        · exact Le.sub (by first | rfl | simp) (by simp only [AW7, simprocAttr, hX]; try simp <;> try (first | rfl | exact ⟨rfl, rfl⟩ | exact ⟨rfl, rfl, rfl⟩))
        rintro ⟨k, ys⟩ ⟨hk, hy⟩ ih2
        try simp only []
        simp only [] at hk hy
        have hyl : ys.length = k := by have := congrArg List.length hy; simp at this; omega
        refine Run.R ?_
        refine Run.nq ?_; refine Run.cW ?_ ?_
        · intro h2
          have h2 : k < n := by simp at h2; omega
          have hmem : (m.drop 1).getD k [] ∈ m := by
            have : (m.drop 1).getD k [] = m.getD (k + 1) [] := by simp [List.getD_eq_getElem?_getD, List.getElem?_drop, Nat.add_comm]
            rw [this]
            simp [List.getD_eq_getElem?_getD, show k + 1 < m.length by omega]
          have hrl := (hm.2 _ hmem).1
          refine Run.R ?_
          refine Run.keep [0, 2, 3, 4, 5, 6, 7, 9, 15, 16, 17, 26, 27, 28] ?_; simp only [AK, Nat.reduceBEq]
          refine Run.nq ?_; refine Run.regionD hC true [0,2,3,4,6,7,8,9,1,5,10,11,12,13] (by kernel_rfl) (fun K hK => ?_); simp (disch := omega) only [wrap_id, AW7, simprocAttr, hX]; (repeat (with_reducible refine And.intro ?_ ?_); exact vc0)
          intro l hl
          (repeat (with_reducible refine And.intro ?_ ?_); exact vc0)
          refine wE ?_; clear hK K
          refine Run.RW ?_
          refine Run.reK hpin [0, 2, 3, 4, 5, 6, 7, 15, 16, 17, 26, 27, 28] [0] (by decide) (by simp) ?_; simp only [AR, AW7, simprocAttr]
          refine Run.le ?_ (ih2 (k + 1, ys ++ [(l, ((m.drop 1).getD k []).take j ++ ((m.drop 1).getD k []).drop (j + 1))]) ⟨h2, by simp only [List.map_append, hy, List.map_cons, List.map_nil]; exact map_snoc (fun r : List Int => r.take j ++ r.drop (j + 1)) (m.drop 1) [] k (by omega)⟩ (by simp only []; omega))
          have e1 : List.take (j - 0) (List.drop 0 ((List.drop 1 m).getD k [])) ++ List.take (List.length ((List.drop 1 m).getD k []) - ((j : Int) + 1).toNat) (List.drop ((j : Int) + 1).toNat ((List.drop 1 m).getD k [])) = ((m.drop 1).getD k []).take j ++ ((m.drop 1).getD k []).drop (j + 1) := by
            rw [Nat.sub_zero, List.drop_zero, show ((j : Int) + 1).toNat = j + 1 by omega, List.take_of_length_le (l := List.drop (j + 1) _) (by simp)]
          exact Le.sub (by rw [e1]) (by simp only [AW7, simprocAttr]; try simp)
        · intro h2
          have h2 : k = n := by simp at h2; omega
          rw [List.take_of_length_le (by omega)] at hy
          have hy : ys.map (·.2) = minorL m j := hy
          refine Run.exit rfl ?_; refine Run.nq ?_
          refine Run.nq ?_; refine Run.regionW hC (fun K hK => ?_); refine wW ?_
          refine FunA.callW hP hT (ihn (minorL m j) (by omega) hsq) (by simp only [AW7, simprocAttr]; exact hy.symm) ?_
          rintro rs o ⟨rfl, rfl⟩
          simp (disch := omega) only [wrap_id, AW7, simprocAttr, hX]
          (repeat (with_reducible refine And.intro ?_ ?_); exact vc0)
          refine wE ?_; clear hK K
          rw [← hsn]
          refine Run.keep [0, 2, 3, 4, 15, 16, 17] ?_; simp only [AK, Nat.reduceBEq]
          refine Run.RW ?_
          refine Run.RW ?_
          refine Run.reK hpin [0, 2, 3, 4, 15, 16, 17] [] (by decide) (by simp) ?_; simp only [AR, AW7, simprocAttr]
          refine Run.le ?_ (ih (j + 1) (by omega) (by omega))
          exact Le.sub (by rfl) (by rw [hss]; simp only [AW7, simprocAttr]; simp)
      · intro hx
        have hx : (m.getD 0 []).getD j 0 = 0 := by simpa using hx
        rw [hx] at hsn
        simp only [Int.mul_zero, Int.zero_mul, Int.add_zero] at hsn
        refine Run.RW ?_
        refine Run.RW ?_
        refine Run.le ?_ (ih (j + 1) (by omega) (by omega))
        exact Le.sub (by rfl) (by rw [hss, hsn]; simp only [AW7, simprocAttr]; simp)
    · intro h
      have h : j = n + 1 := by simp at h; omega
      subst h
      refine Run.exit rfl ?_; refine Run.nq ?_
      refine Run.R ?_
      refine Run.rW [2] (hfin _ _ rfl rfl ?_)
      exact ⟨rfl, rfl⟩
end Go.Proofs.YtaghdbbcadhjdaaGreatDoor

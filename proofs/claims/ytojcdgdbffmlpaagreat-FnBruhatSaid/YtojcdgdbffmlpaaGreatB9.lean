/- The matrices that are drawn: their making. -/
import Derived.Test.YtojcdgdbffmlpaaGreatB6
import Derived.Test.YtojcdgdbffmlpaaGreatB8
set_option linter.unusedVariables false
set_option linter.unusedSimpArgs false
namespace Go.Proofs.YtojcdgdbffmlpaaGreat
open Go Go.Aw
theorem c_l1Pick (s : Value) (l : List (List UInt8)) (h0 : 0 < l.length) (hl : l.length ≤ 256) : FunO B 223 [.own 0 0, .sl false .str l] (.cur s 0) (fun rs o => ∃ x : List UInt8, rs = [.str x] ∧ x ∈ l ∧ o = [.cur s 0]) := by
  refine FunO.walk B_ok (fn := Tryz.f223) (fun vs w => Tryz.call223 vs w) Tryz.func223 rfl (by rw [Tryz.ntmps223]; simp) (fun C hC hP hT hΓ hbt hfn hpin hfin => ?_); have hX := BX; rw [← hΓ, ← hbt.1, ← hbt.2] at hX; rw [Tryz.ntmps223]; simp only [AW7, simprocAttr, hX]
  refine Run.nq ?_; refine Run.regionW hC (fun K hK => ?_); simp only [AW7, simprocAttr, hX]; (repeat (with_reducible refine And.intro ?_ ?_); exact vc0); refine hK _ ?_; clear hK K; refine Run.nq ?_
  refine Run.nq ?_; refine Run.regionW hC (fun K hK => ?_); simp only [AW7, simprocAttr, hX]; (repeat (with_reducible refine And.intro ?_ ?_); exact vc0)
  refine FunO.callCur hP hT (c_l1Below s l.length (by omega) (by omega)) 0 0 (by first | rfl | (simp only [AW7, simprocAttr]; done) | (simp only [AW7, simprocAttr]; rfl)) (by simp only [AW7, simprocAttr]) ?_
  rintro rs o' obs' ⟨x, rfl, x0, x1, ho⟩
  injection ho with ho1 ho2; subst ho1 ho2
  have x1 := x1 (by omega)
  simp (disch := omega) only [wrap_id, AW7, simprocAttr, hX]; (repeat (with_reducible refine And.intro ?_ ?_); exact vc0)
  (repeat (with_reducible refine And.intro ?_ ?_); exact vc0); refine hK _ ?_; clear hK K; refine Run.nq ?_
  refine Run.retW [4] (by decide) (by rw [hfn]; rfl) (by simp only [AW7, simprocAttr, hX]; rfl) (by simp only [AW7, simprocAttr, hX]) (hfin _ _ _ rfl rfl ⟨rfl, rfl⟩ ?_)
  refine ⟨_, rfl, ?_, rfl⟩
  rw [List.getD_eq_getElem?_getD, List.getElem?_eq_getElem (by omega)]
  simp
def chR (n i : Nat) : List Int := (List.range n).map fun j => if j = i then 2 else if j + 1 = i ∨ i + 1 = j then -1 else 0
def chL (n : Nat) : List (List Int) := (List.range n).map (chR n)
theorem chR_eq (n i : Nat) (hi : i < n) : (if i + 1 < n then (if 0 < i then ((List.replicate n (0:Int)).set i 2).set (i - 1) (-1) else (List.replicate n (0:Int)).set i 2).set (i + 1) (-1) else (if 0 < i then ((List.replicate n (0:Int)).set i 2).set (i - 1) (-1) else (List.replicate n (0:Int)).set i 2)) = chR n i := by
  apply List.ext_getElem?
  intro j
  unfold chR
  by_cases hj : j < n
  · by_cases h1 : i + 1 < n <;> by_cases h2 : 0 < i <;> simp only [h1, h2, if_true, if_false, List.getElem?_set, List.length_set, List.length_replicate, List.getElem?_map, List.getElem?_range hj, Option.map_some, List.getElem?_replicate, hj] <;> (repeat' split) <;> first | rfl | omega | (simp; omega) | simp_all
  · rw [List.getElem?_eq_none, List.getElem?_eq_none]
    · simp; omega
    · split <;> split <;> simp <;> omega
theorem chL_snoc (n i : Nat) : (List.range (i + 1)).map (chR n) = (List.range i).map (chR n) ++ [chR n i] := by rw [List.range_succ]; simp
theorem c_l2ChainR (n : Nat) (hn : n ≤ 8) : FunA B 243 [.int .i64 n] (fun rs o => ∃ ys g nn rest, (rw2 ys = chL n ∧ nn = true ∧ rest = []) ∧ (lb1 ys).Nodup ∧ rest.all flatAV = true ∧ rs = .own 0 g :: rest ∧ o = [.arr .lrow ys g nn]) := by
  refine FunA.walk B_ok (fn := Tryz.f243) (fun vs w => Tryz.call243 vs w) Tryz.func243 rfl (by rw [Tryz.ntmps243]; simp) (fun C hC hP hT hΓ hbt hfn hpin hfin => ?_); have hX := BX; rw [← hΓ, ← hbt.1, ← hbt.2] at hX; rw [Tryz.ntmps243]; simp only [AW7, simprocAttr, hX]
  refine Run.nq ?_; refine Run.regionW hC (fun K hK => ?_); simp only [AW7, simprocAttr, hX]; (repeat (with_reducible refine And.intro ?_ ?_); exact vc0); refine hK _ ?_; clear hK K; refine Run.nq ?_
  refine Run.nq ?_; refine Run.regionW hC (fun K hK => ?_); simp only [AW7, simprocAttr, hX]; (repeat (with_reducible refine And.intro ?_ ?_); exact vc0); refine hK _ ?_; clear hK K; refine Run.nq ?_
  refine Run.nq ?_; refine Run.regionW hC (fun K hK => ?_); simp only [AW7, simprocAttr, hX]; (repeat (with_reducible refine And.intro ?_ ?_); exact vc0); refine hK _ ?_; clear hK K; refine Run.nq ?_
  refine Run.loopI (X := List (Nat × List Int) × Nat) (fun y => ⟨36, [(0, true, .v (.int .i64 (n))), (3, true, .v (.own 0 0)), (4, true, .v (.int .i64 (y.2)))], [.arr .lrow (y.1) 0 true]⟩) (fun y => y.2 ≤ n ∧ rw2 y.1 = (List.range y.2).map (chR n) ∧ (lb1 y.1).Nodup) (fun y => n - y.2) (([], 0)) (⟨Nat.zero_le _, rfl, by simp [lb1]⟩) ?_ ?_
  · exact Le.sub (by first | rfl | simp) (by simp only [AW7, simprocAttr, hX]; try simp <;> try (first | rfl | exact ⟨rfl, rfl⟩ | exact ⟨rfl, rfl, rfl⟩))
  rintro ⟨ys, i⟩ ⟨hi, hE, hN⟩ ih
  try simp only []
  simp only [] at hi hE hN
  refine Run.nq ?_; refine Run.regionW hC (fun K hK => ?_); simp only [AW7, simprocAttr, hX]; (repeat (with_reducible refine And.intro ?_ ?_); exact vc0); refine hK _ ?_; clear hK K; refine Run.nq ?_
  refine Run.nq ?_; refine Run.condW (by simp only [AW7, simprocAttr, hX]; rfl) (by simp only [AW7, simprocAttr, hX]) ?_ ?_
  rotate_left
  · intro h
    have h : i = n := by rw [decide_eq_false_iff_not] at h; omega
    subst h
    refine Run.exit rfl ?_; refine Run.nq ?_
    refine Run.nq ?_; refine Run.regionW hC (fun K hK => ?_); simp only [AW7, simprocAttr, hX]; (repeat (with_reducible refine And.intro ?_ ?_); exact vc0); refine hK _ ?_; clear hK K; refine Run.nq ?_
    refine Run.retW [2] (by decide) (by rw [hfn]; rfl) (by simp only [AW7, simprocAttr, hX]; rfl) (by simp only [AW7, simprocAttr, hX]) (hfin _ _ rfl rfl ?_)
    exact ⟨ys, 0, true, [], ⟨hE, rfl, rfl⟩, hN, rfl, rfl, rfl⟩
  intro h
  have h : i < n := by rw [decide_eq_true_eq] at h; omega
  have e1 : ((i : Int) - 1).toNat = i - 1 := by omega
  have e2 : ((i : Int) + 1).toNat = i + 1 := by omega
  have hyl : ys.length = i := by have : (rw2 ys).length = ys.length := by simp [rw2]
                                 rw [hE] at this; simpa using this.symm
  have hch := chR_eq n i h
  refine Run.nq ?_; refine Run.regionW hC (fun K hK => ?_); simp only [AW7, simprocAttr, hX]; (repeat (with_reducible refine And.intro ?_ ?_); exact vc0); refine hK _ ?_; clear hK K; refine Run.nq ?_
  refine Run.nq ?_; refine Run.regionW hC (fun K hK => ?_); simp only [AW7, simprocAttr, hX]; (repeat (with_reducible refine And.intro ?_ ?_); exact vc0); refine hK _ ?_; clear hK K; refine Run.nq ?_
  refine Run.nq ?_; refine Run.regionW hC (fun K hK => ?_); simp only [AW7, simprocAttr, hX]; (repeat (with_reducible refine And.intro ?_ ?_); exact vc0); refine hK _ ?_; clear hK K; refine Run.nq ?_
  refine Run.nq ?_; refine Run.condW (by simp only [AW7, simprocAttr, hX]; rfl) (by simp only [AW7, simprocAttr, hX]) ?_ ?_
  · intro h1
    have h1 : 0 < i := by rw [decide_eq_true_eq] at h1; omega
    refine Run.nq ?_; refine Run.regionW hC (fun K hK => ?_); simp (disch := omega) only [wrap_id, AW7, simprocAttr, hX]; (repeat (with_reducible refine And.intro ?_ ?_); exact vc0); refine hK _ ?_; clear hK K; refine Run.nq ?_
    refine Run.nq ?_; refine Run.regionW hC (fun K hK => ?_); simp (disch := omega) only [wrap_id, AW7, simprocAttr, hX]; (repeat (with_reducible refine And.intro ?_ ?_); exact vc0); refine hK _ ?_; clear hK K; refine Run.nq ?_
    refine Run.nq ?_; refine Run.condW (by simp only [AW7, simprocAttr, hX]; rfl) (by simp only [AW7, simprocAttr, hX]) ?_ ?_
    · intro h2
      have h2 : i + 1 < n := by rw [decide_eq_true_eq] at h2; omega
      rw [if_pos h2, if_pos h1] at hch
      refine Run.nq ?_; refine Run.regionW hC (fun K hK => ?_); simp (disch := omega) only [wrap_id, AW7, simprocAttr, hX]; (repeat (with_reducible refine And.intro ?_ ?_); exact vc0); refine hK _ ?_; clear hK K; refine Run.nq ?_
      rw [e1, e2, hch]
      refine Run.reK hpin [0, 3, 4, 5] [0, 1] (by decide) (by simp) ?_; simp only [AR, AW7, simprocAttr]
      refine Run.tolr 1 [0, 3, 4, 5] rfl (fun q hq => ?_); simp only [AL, frV_cons, frV_nil, AW7, simprocAttr]
      refine Run.nq ?_; refine Run.regionW hC (fun K hK => ?_); simp only [AW7, simprocAttr, hX]; (repeat (with_reducible refine And.intro ?_ ?_); exact vc0); refine hK _ ?_; clear hK K; refine Run.nq ?_
      refine Run.reK hpin [0, 3, 4] [0] (by decide) (by simp) ?_; simp only [AR, AW7, simprocAttr]
      have hnd2 : (lb1 (ys ++ [(q, chR n i)])).Nodup := by
        rw [lb1_app, List.nodup_append]
        refine ⟨hN, by simp [lb1], fun a ha b hb => ?_⟩
        simp [lb1] at hb
        subst hb
        obtain ⟨p, hp, rfl⟩ := List.mem_map.1 ha
        exact hq _ (List.mem_cons_self ..) _ _ _ rfl p hp
      have hE2 : rw2 (ys ++ [(q, chR n i)]) = (List.range (i + 1)).map (chR n) := by
        rw [chL_snoc, ← hE]; simp [rw2]
      refine Run.nq ?_; refine Run.regionW hC (fun K hK => ?_); simp (disch := omega) only [wrap_id, AW7, simprocAttr, hX]; (repeat (with_reducible refine And.intro ?_ ?_); exact vc0); refine hK _ ?_; clear hK K; refine Run.nq ?_
      refine Run.le ?_ (ih ((ys ++ [(q, chR n i)], i + 1)) (⟨h, hE2, hnd2⟩) (by (try simp only [List.length_append, List.length_cons, List.length_nil]); omega))
      exact Le.sub (by rfl) (by simp only [AW7, simprocAttr]; try simp)
    intro h2
    have h2 : ¬ i + 1 < n := by rw [decide_eq_false_iff_not] at h2; omega
    rw [if_neg h2, if_pos h1] at hch
    rw [e1, hch]
    refine Run.reK hpin [0, 3, 4, 5] [0, 1] (by decide) (by simp) ?_; simp only [AR, AW7, simprocAttr]
    refine Run.tolr 1 [0, 3, 4, 5] rfl (fun q hq => ?_); simp only [AL, frV_cons, frV_nil, AW7, simprocAttr]
    refine Run.nq ?_; refine Run.regionW hC (fun K hK => ?_); simp only [AW7, simprocAttr, hX]; (repeat (with_reducible refine And.intro ?_ ?_); exact vc0); refine hK _ ?_; clear hK K; refine Run.nq ?_
    refine Run.reK hpin [0, 3, 4] [0] (by decide) (by simp) ?_; simp only [AR, AW7, simprocAttr]
    have hnd2 : (lb1 (ys ++ [(q, chR n i)])).Nodup := by
      rw [lb1_app, List.nodup_append]
      refine ⟨hN, by simp [lb1], fun a ha b hb => ?_⟩
      simp [lb1] at hb
      subst hb
      obtain ⟨p, hp, rfl⟩ := List.mem_map.1 ha
      exact hq _ (List.mem_cons_self ..) _ _ _ rfl p hp
    have hE2 : rw2 (ys ++ [(q, chR n i)]) = (List.range (i + 1)).map (chR n) := by
      rw [chL_snoc, ← hE]; simp [rw2]
    refine Run.nq ?_; refine Run.regionW hC (fun K hK => ?_); simp (disch := omega) only [wrap_id, AW7, simprocAttr, hX]; (repeat (with_reducible refine And.intro ?_ ?_); exact vc0); refine hK _ ?_; clear hK K; refine Run.nq ?_
    refine Run.le ?_ (ih ((ys ++ [(q, chR n i)], i + 1)) (⟨h, hE2, hnd2⟩) (by (try simp only [List.length_append, List.length_cons, List.length_nil]); omega))
    exact Le.sub (by rfl) (by simp only [AW7, simprocAttr]; try simp)
  intro h1
  have h1 : ¬ 0 < i := by rw [decide_eq_false_iff_not] at h1; omega
  refine Run.nq ?_; refine Run.regionW hC (fun K hK => ?_); simp (disch := omega) only [wrap_id, AW7, simprocAttr, hX]; (repeat (with_reducible refine And.intro ?_ ?_); exact vc0); refine hK _ ?_; clear hK K; refine Run.nq ?_
  refine Run.nq ?_; refine Run.condW (by simp only [AW7, simprocAttr, hX]; rfl) (by simp only [AW7, simprocAttr, hX]) ?_ ?_
  · intro h2
    have h2 : i + 1 < n := by rw [decide_eq_true_eq] at h2; omega
    rw [if_pos h2, if_neg h1] at hch
    refine Run.nq ?_; refine Run.regionW hC (fun K hK => ?_); simp (disch := omega) only [wrap_id, AW7, simprocAttr, hX]; (repeat (with_reducible refine And.intro ?_ ?_); exact vc0); refine hK _ ?_; clear hK K; refine Run.nq ?_
    rw [e2, hch]
    refine Run.reK hpin [0, 3, 4, 5] [0, 1] (by decide) (by simp) ?_; simp only [AR, AW7, simprocAttr]
    refine Run.tolr 1 [0, 3, 4, 5] rfl (fun q hq => ?_); simp only [AL, frV_cons, frV_nil, AW7, simprocAttr]
    refine Run.nq ?_; refine Run.regionW hC (fun K hK => ?_); simp only [AW7, simprocAttr, hX]; (repeat (with_reducible refine And.intro ?_ ?_); exact vc0); refine hK _ ?_; clear hK K; refine Run.nq ?_
    refine Run.reK hpin [0, 3, 4] [0] (by decide) (by simp) ?_; simp only [AR, AW7, simprocAttr]
    have hnd2 : (lb1 (ys ++ [(q, chR n i)])).Nodup := by
      rw [lb1_app, List.nodup_append]
      refine ⟨hN, by simp [lb1], fun a ha b hb => ?_⟩
      simp [lb1] at hb
      subst hb
      obtain ⟨p, hp, rfl⟩ := List.mem_map.1 ha
      exact hq _ (List.mem_cons_self ..) _ _ _ rfl p hp
    have hE2 : rw2 (ys ++ [(q, chR n i)]) = (List.range (i + 1)).map (chR n) := by
      rw [chL_snoc, ← hE]; simp [rw2]
    refine Run.nq ?_; refine Run.regionW hC (fun K hK => ?_); simp (disch := omega) only [wrap_id, AW7, simprocAttr, hX]; (repeat (with_reducible refine And.intro ?_ ?_); exact vc0); refine hK _ ?_; clear hK K; refine Run.nq ?_
    refine Run.le ?_ (ih ((ys ++ [(q, chR n i)], i + 1)) (⟨h, hE2, hnd2⟩) (by (try simp only [List.length_append, List.length_cons, List.length_nil]); omega))
    exact Le.sub (by rfl) (by simp only [AW7, simprocAttr]; try simp)
  intro h2
  have h2 : ¬ i + 1 < n := by rw [decide_eq_false_iff_not] at h2; omega
  rw [if_neg h2, if_neg h1] at hch
  rw [hch]
  refine Run.reK hpin [0, 3, 4, 5] [0, 1] (by decide) (by simp) ?_; simp only [AR, AW7, simprocAttr]
  refine Run.tolr 1 [0, 3, 4, 5] rfl (fun q hq => ?_); simp only [AL, frV_cons, frV_nil, AW7, simprocAttr]
  refine Run.nq ?_; refine Run.regionW hC (fun K hK => ?_); simp only [AW7, simprocAttr, hX]; (repeat (with_reducible refine And.intro ?_ ?_); exact vc0); refine hK _ ?_; clear hK K; refine Run.nq ?_
  refine Run.reK hpin [0, 3, 4] [0] (by decide) (by simp) ?_; simp only [AR, AW7, simprocAttr]
  have hnd2 : (lb1 (ys ++ [(q, chR n i)])).Nodup := by
    rw [lb1_app, List.nodup_append]
    refine ⟨hN, by simp [lb1], fun a ha b hb => ?_⟩
    simp [lb1] at hb
    subst hb
    obtain ⟨p, hp, rfl⟩ := List.mem_map.1 ha
    exact hq _ (List.mem_cons_self ..) _ _ _ rfl p hp
  have hE2 : rw2 (ys ++ [(q, chR n i)]) = (List.range (i + 1)).map (chR n) := by
    rw [chL_snoc, ← hE]; simp [rw2]
  refine Run.nq ?_; refine Run.regionW hC (fun K hK => ?_); simp (disch := omega) only [wrap_id, AW7, simprocAttr, hX]; (repeat (with_reducible refine And.intro ?_ ?_); exact vc0); refine hK _ ?_; clear hK K; refine Run.nq ?_
  refine Run.le ?_ (ih ((ys ++ [(q, chR n i)], i + 1)) (⟨h, hE2, hnd2⟩) (by (try simp only [List.length_append, List.length_cons, List.length_nil]); omega))
  exact Le.sub (by rfl) (by simp only [AW7, simprocAttr]; try simp)
theorem c_l2Chain (n : Nat) (hn : n ≤ 8) : FunA B 243 [.int .i64 n] (fun rs o => rs = [.own 0 0] ∧ ∃ hs, o = [.mat hs (chL n) 0 true]) :=
  (FunA.mat (by rfl) (post := fun rows nn rest => rows = chL n ∧ nn = true ∧ rest = []) (c_l2ChainR n hn)).mono fun rs o ⟨hs, rows, nn, rest, ⟨h1, h2, h3⟩, h4, h5, h6⟩ => by subst h1 h2 h3; exact ⟨h5, hs, h6⟩
theorem c_l2CopyR (c : List (List Int)) (hc : c.length ≤ 100) (hr : ∀ r ∈ c, r.length ≤ 100) : FunA B 260 [.sl false (.row false) c] (fun rs o => ∃ ys g nn rest, (rw2 ys = c ∧ nn = true ∧ rest = []) ∧ (lb1 ys).Nodup ∧ rest.all flatAV = true ∧ rs = .own 0 g :: rest ∧ o = [.arr .lrow ys g nn]) := by
  refine FunA.walk B_ok (fn := Tryz.f260) (fun vs w => Tryz.call260 vs w) Tryz.func260 rfl (by rw [Tryz.ntmps260]; simp) (fun C hC hP hT hΓ hbt hfn hpin hfin => ?_); have hX := BX; rw [← hΓ, ← hbt.1, ← hbt.2] at hX; rw [Tryz.ntmps260]; simp only [AW7, simprocAttr, hX]
  refine Run.nq ?_; refine Run.regionW hC (fun K hK => ?_); simp only [AW7, simprocAttr, hX]; (repeat (with_reducible refine And.intro ?_ ?_); exact vc0); refine hK _ ?_; clear hK K; refine Run.nq ?_
  refine Run.nq ?_; refine Run.regionW hC (fun K hK => ?_); simp only [AW7, simprocAttr, hX]; (repeat (with_reducible refine And.intro ?_ ?_); exact vc0); refine hK _ ?_; clear hK K; refine Run.nq ?_
  refine Run.nq ?_; refine Run.regionW hC (fun K hK => ?_); simp only [AW7, simprocAttr, hX]; (repeat (with_reducible refine And.intro ?_ ?_); exact vc0); refine hK _ ?_; clear hK K; refine Run.nq ?_
  refine Run.loopI (X := List (Nat × List Int) × Nat) (fun y => ⟨22, [(0, true, .v (.sl false (.row false) (c))), (3, true, .v (.own 0 0)), (4, true, .v (.int .i64 (y.2)))], [.arr .lrow (y.1) 0 true]⟩) (fun y => y.2 ≤ c.length ∧ rw2 y.1 = c.take y.2 ∧ (lb1 y.1).Nodup) (fun y => c.length - y.2) (([], 0)) (⟨Nat.zero_le _, rfl, by simp [lb1]⟩) ?_ ?_
  · exact Le.sub (by first | rfl | simp) (by simp only [AW7, simprocAttr, hX]; try simp <;> try (first | rfl | exact ⟨rfl, rfl⟩ | exact ⟨rfl, rfl, rfl⟩))
  rintro ⟨ys, i⟩ ⟨hi, hE, hN⟩ ih
  try simp only []
  simp only [] at hi hE hN
  refine Run.nq ?_; refine Run.regionW hC (fun K hK => ?_); simp only [AW7, simprocAttr, hX]; (repeat (with_reducible refine And.intro ?_ ?_); exact vc0); refine hK _ ?_; clear hK K; refine Run.nq ?_
  refine Run.nq ?_; refine Run.condW (by simp only [AW7, simprocAttr, hX]; rfl) (by simp only [AW7, simprocAttr, hX]) ?_ ?_
  rotate_left
  · intro h
    have h : i = c.length := by rw [decide_eq_false_iff_not] at h; omega
    subst h
    refine Run.exit rfl ?_; refine Run.nq ?_
    refine Run.nq ?_; refine Run.regionW hC (fun K hK => ?_); simp only [AW7, simprocAttr, hX]; (repeat (with_reducible refine And.intro ?_ ?_); exact vc0); refine hK _ ?_; clear hK K; refine Run.nq ?_
    refine Run.retW [2] (by decide) (by rw [hfn]; rfl) (by simp only [AW7, simprocAttr, hX]; rfl) (by simp only [AW7, simprocAttr, hX]) (hfin _ _ rfl rfl ?_)
    exact ⟨ys, 0, true, [], ⟨by rw [hE, List.take_length], rfl, rfl⟩, hN, rfl, rfl, rfl⟩
  intro h
  have h : i < c.length := by rw [decide_eq_true_eq] at h; omega
  have hyl : ys.length = i := by
    have : (rw2 ys).length = ys.length := by simp [rw2]
    rw [hE] at this
    simp at this
    omega
  have hrl : (c.getD i []).length ≤ 100 := by
    rw [List.getD_eq_getElem?_getD, List.getElem?_eq_getElem h]
    exact hr _ (List.getElem_mem h)
  refine Run.nq ?_; refine Run.regionW hC (fun K hK => ?_); simp only [AW7, simprocAttr, hX]; (repeat (with_reducible refine And.intro ?_ ?_); exact vc0)
  refine ⟨by simp only [List.length_nil]; omega, fun q hq => ⟨by simp only [List.length_cons, List.length_nil]; omega, ?_⟩⟩
  (repeat (with_reducible refine And.intro ?_ ?_); exact vc0); refine hK _ ?_; clear hK K; refine Run.nq ?_
  refine Run.reK hpin [0, 3, 4] [0] (by decide) (by simp) ?_; simp only [AR, AW7, simprocAttr]
  have hnd2 : (lb1 (ys ++ [(q, c.getD i [])])).Nodup := by
    rw [lb1_app, List.nodup_append]
    refine ⟨hN, by simp [lb1], fun a ha b hb => ?_⟩
    simp [lb1] at hb
    subst hb
    obtain ⟨p, hp, rfl⟩ := List.mem_map.1 ha
    exact hq _ (List.mem_cons_self ..) _ _ _ rfl p hp
  have hE2 : rw2 (ys ++ [(q, c.getD i [])]) = c.take (i + 1) := by
    rw [← take_snoc [] c i h, ← hE]; simp [rw2]
  refine Run.nq ?_; refine Run.regionW hC (fun K hK => ?_); simp (disch := omega) only [wrap_id, AW7, simprocAttr, hX]; (repeat (with_reducible refine And.intro ?_ ?_); exact vc0); refine hK _ ?_; clear hK K; refine Run.nq ?_
  refine Run.le ?_ (ih ((ys ++ [(q, c.getD i [])], i + 1)) (⟨h, hE2, hnd2⟩) (by (try simp only [List.length_append, List.length_cons, List.length_nil]); omega))
  exact Le.sub (by rfl) (by simp only [AW7, simprocAttr]; try simp)
theorem c_l2Copy (c : List (List Int)) (hc : c.length ≤ 100) (hr : ∀ r ∈ c, r.length ≤ 100) : FunA B 260 [.sl false (.row false) c] (fun rs o => rs = [.own 0 0] ∧ ∃ hs, o = [.mat hs c 0 true]) :=
  (FunA.mat (by rfl) (post := fun rows nn rest => rows = c ∧ nn = true ∧ rest = []) (c_l2CopyR c hc hr)).mono fun rs o ⟨hs, rows, nn, rest, ⟨h1, h2, h3⟩, h4, h5, h6⟩ => by subst h1 h2 h3; exact ⟨h5, hs, h6⟩
def set1 (c : List (List Int)) (i j : Nat) (a : Int) : List (List Int) := c.set i ((c.getD i []).set j a)
theorem set1_len (c : List (List Int)) (i j : Nat) (a : Int) : (set1 c i j a).length = c.length := by simp [set1]
theorem set1_row (c : List (List Int)) (i j k : Nat) (a : Int) : ((set1 c i j a).getD k []).length = (c.getD k []).length := by
  unfold set1
  simp only [List.getD_eq_getElem?_getD]
  by_cases h : i = k
  · subst h
    by_cases hi : i < c.length
    · rw [List.getElem?_set_self hi]; simp
    · rw [List.set_eq_of_length_le (by omega)]
  · rw [List.getElem?_set_ne h]
theorem c_l2Set (c : List (List Int)) (i j : Nat) (a b : Int) (hc : c.length ≤ 100) (hr : ∀ r ∈ c, r.length ≤ 100) (hi : i < c.length) (hj : j < c.length) (h1 : j < (c.getD i []).length) (h2 : i < (c.getD j []).length) :
    FunA B 244 [.sl false (.row false) c, .int .i64 i, .int .i64 j, .int .i64 a, .int .i64 b] (fun rs o => rs = [.own 0 0] ∧ ∃ hs, o = [.mat hs (set1 (set1 c i j a) j i b) 0 true]) := by
  refine FunA.walk B_ok (fn := Tryz.f244) (fun vs w => Tryz.call244 vs w) Tryz.func244 rfl (by rw [Tryz.ntmps244]; simp) (fun C hC hP hT hΓ hbt hfn hpin hfin => ?_); have hX := BX; rw [← hΓ, ← hbt.1, ← hbt.2] at hX; rw [Tryz.ntmps244]; simp only [AW7, simprocAttr, hX]
  refine Run.nq ?_; refine Run.regionW hC (fun K hK => ?_); simp only [AW7, simprocAttr, hX]; (repeat (with_reducible refine And.intro ?_ ?_); exact vc0); refine hK _ ?_; clear hK K; refine Run.nq ?_
  refine Run.nq ?_; refine Run.regionW hC (fun K hK => ?_); simp only [AW7, simprocAttr, hX]; (repeat (with_reducible refine And.intro ?_ ?_); exact vc0)
  refine FunA.callW hP hT (c_l2Copy c hc hr) (by simp only [AW7, simprocAttr]) ?_
  rintro rs o ⟨rfl, hs, rfl⟩
  (try simp only [AW7, simprocAttr, hX]); (repeat (with_reducible refine And.intro ?_ ?_); exact vc0)
  (repeat (with_reducible refine And.intro ?_ ?_); exact vc0); refine hK _ ?_; clear hK K; refine Run.nq ?_
  refine Run.matfact 0 rfl fun hl hd hz => ?_
  obtain ⟨q1, e1, m1, x1⟩ := mat_head hl hd hz hi (by omega)
  have hl2 : hs.length = (set1 c i j a).length := by rw [set1_len]; exact hl
  have hv1 : j < (c.getD (hs.idxOf (some q1)) []).length := by rw [x1]; exact h1
  have hs1 : setM hs c q1 j a = set1 c i j a := by unfold setM set1; rw [x1]
  refine Run.nq ?_; refine Run.regionW hC (fun K hK => ?_); simp only [AW7, simprocAttr, hX]; (repeat (with_reducible refine And.intro ?_ ?_); exact vc0)
  rw [e1]
  (try simp only [AW7, simprocAttr, hX]); (repeat (with_reducible refine And.intro ?_ ?_); exact vc0)
  (repeat (with_reducible refine And.intro ?_ ?_); exact vc0); refine hK _ ?_; clear hK K; refine Run.nq ?_
  rw [hs1]
  refine Run.reK hpin [0, 1, 2, 3, 4, 11] [0] (by decide) (by simp) ?_; simp only [AR, AW7, simprocAttr]
  refine Run.matfact 0 rfl fun hl hd hz => ?_
  obtain ⟨q2, e2, m2, x2⟩ := mat_head (i := j) hl hd hz (by rw [set1_len]; exact hj) (by rw [set1_row]; omega)
  have hv2 : i < ((set1 c i j a).getD (hs.idxOf (some q2)) []).length := by rw [x2, set1_row]; exact h2
  have hs2 : setM hs (set1 c i j a) q2 i b = set1 (set1 c i j a) j i b := by unfold setM; rw [x2]; rfl
  have h2' := h2
  rw [← set1_row c i j j a] at h2'
  have hj' : j < (set1 c i j a).length := by rw [set1_len]; exact hj
  refine Run.nq ?_; refine Run.regionW hC (fun K hK => ?_); simp only [AW7, simprocAttr, hX]; (repeat (with_reducible refine And.intro ?_ ?_); exact vc0)
  rw [e2]
  (try simp only [AW7, simprocAttr, hX]); (repeat (with_reducible refine And.intro ?_ ?_); exact vc0)
  (repeat (with_reducible refine And.intro ?_ ?_); exact vc0); refine hK _ ?_; clear hK K; refine Run.nq ?_
  rw [hs2]
  refine Run.nq ?_; refine Run.regionW hC (fun K hK => ?_); simp only [AW7, simprocAttr, hX]; (repeat (with_reducible refine And.intro ?_ ?_); exact vc0); refine hK _ ?_; clear hK K; refine Run.nq ?_
  refine Run.reK hpin [10] [0] (by decide) (by simp) ?_; simp only [AR, AW7, simprocAttr]
  refine Run.retW [10] (by decide) (by rw [hfn]; rfl) (by simp only [AW7, simprocAttr, hX]; rfl) (by simp only [AW7, simprocAttr, hX]) (hfin _ _ rfl rfl ?_)
  exact ⟨rfl, hs, rfl⟩
end Go.Proofs.YtojcdgdbffmlpaaGreat
namespace Go.Proofs.YtojcdgdbffmlpaaGreat
open Go Go.Aw
def tcM : List UInt8 → List (List Int)
  | [65, 49] => chL 1
  | [65, 50] => chL 2
  | [65, 51] => chL 3
  | [65, 52] => chL 4
  | [66, 50] => set1 (set1 (chL 2) 0 1 (-1)) 1 0 (-2)
  | [66, 51] => set1 (set1 (chL 3) 1 2 (-1)) 2 1 (-2)
  | [66, 52] => set1 (set1 (chL 4) 2 3 (-1)) 3 2 (-2)
  | [67, 51] => set1 (set1 (chL 3) 1 2 (-2)) 2 1 (-1)
  | [67, 52] => set1 (set1 (chL 4) 2 3 (-2)) 3 2 (-1)
  | [68, 52] => set1 (set1 (set1 (set1 (chL 4) 2 3 (0)) 3 2 (0)) 1 3 (-1)) 3 1 (-1)
  | [70, 52] => set1 (set1 (chL 4) 1 2 (-1)) 2 1 (-2)
  | [71, 50] => set1 (set1 (chL 2) 0 1 (-1)) 1 0 (-3)
  | [65, 49, 126] => set1 (set1 (chL 2) 0 1 (-2)) 1 0 (-2)
  | [65, 50, 126] => set1 (set1 (chL 3) 0 2 (-1)) 2 0 (-1)
  | [65, 51, 126] => set1 (set1 (chL 4) 0 3 (-1)) 3 0 (-1)
  | [67, 50, 126] => set1 (set1 (set1 (set1 (chL 3) 0 1 (-1)) 1 0 (-2)) 1 2 (-2)) 2 1 (-1)
  | [71, 50, 126] => set1 (set1 (chL 3) 1 2 (-1)) 2 1 (-3)
  | _ => []
def tcN : List (List UInt8) := [[65, 49], [65, 50], [65, 51], [65, 52], [66, 50], [66, 51], [66, 52], [67, 51], [67, 52], [68, 52], [70, 52], [71, 50], [65, 49, 126], [65, 50, 126], [65, 51, 126], [67, 50, 126], [71, 50, 126]]
set_option maxHeartbeats 1000000 in
theorem c_TypeCartan (nm : List UInt8) (hm : nm ∈ tcN) : FunA B 222 [.str nm] (fun rs o => rs = [.own 0 0, .bool true] ∧ ∃ hs, o = [.mat hs (tcM nm) 0 true]) := by
  refine FunA.walk B_ok (fn := Tryz.f222) (fun vs w => Tryz.call222 vs w) Tryz.func222 rfl (by rw [Tryz.ntmps222]; simp) (fun C hC hP hT hΓ hbt hfn hpin hfin => ?_); have hX := BX; rw [← hΓ, ← hbt.1, ← hbt.2] at hX; rw [Tryz.ntmps222]; simp only [AW7, simprocAttr, hX]
  refine Run.nq ?_; refine Run.regionW hC (fun K hK => ?_); simp only [AW7, simprocAttr, hX]; (repeat (with_reducible refine And.intro ?_ ?_); exact vc0); refine hK _ ?_; clear hK K; refine Run.nq ?_
  refine Run.nq ?_; refine Run.regionW hC (fun K hK => ?_); simp only [AW7, simprocAttr, hX]; (repeat (with_reducible refine And.intro ?_ ?_); exact vc0); refine hK _ ?_; clear hK K; refine Run.nq ?_
  refine Run.nq ?_; refine Run.regionW hC (fun K hK => ?_); simp only [AW7, simprocAttr, hX]; (repeat (with_reducible refine And.intro ?_ ?_); exact vc0); refine hK _ ?_; clear hK K; refine Run.nq ?_
  refine Run.nq ?_; refine Run.condW (by simp only [AW7, simprocAttr, hX]; rfl) (by simp only [AW7, simprocAttr, hX]) ?_ ?_
  · intro h
    have h : nm = [65, 49] := by simpa using h
    subst h
    refine Run.nq ?_; refine Run.condW (by simp only [AW7, simprocAttr, hX]; rfl) (by simp only [AW7, simprocAttr, hX]) ?_ ?_
    rotate_left
    · intro h; exact absurd h (by decide)
    intro _
    refine Run.nq ?_; refine Run.regionW hC (fun K hK => ?_); simp only [AW7, simprocAttr, hX]; (repeat (with_reducible refine And.intro ?_ ?_); exact vc0)
    refine FunA.callW hP hT (c_l2Chain 1 (by omega)) (by simp only [AW7, simprocAttr]; first | rfl | trivial) ?_
    rintro rs o ⟨rfl, hs, rfl⟩
    (try simp only [AW7, simprocAttr, hX]); (repeat (with_reducible refine And.intro ?_ ?_); exact vc0)
    (repeat (with_reducible refine And.intro ?_ ?_); exact vc0); refine hK _ ?_; clear hK K; refine Run.nq ?_
    refine Run.reK hpin [2, 3] [0] (by decide) (by simp) ?_; simp only [AR, AW7, simprocAttr]
    refine Run.retW [2, 3] (by decide) (by rw [hfn]; rfl) (by simp only [AW7, simprocAttr, hX]; rfl) (by simp only [AW7, simprocAttr, hX]) (hfin _ _ rfl rfl ?_)
    exact ⟨rfl, hs, rfl⟩
  intro n0
  have n0 : ¬ nm = [65, 49] := by simpa using n0
  refine Run.nq ?_; refine Run.regionW hC (fun K hK => ?_); simp only [AW7, simprocAttr, hX]; (repeat (with_reducible refine And.intro ?_ ?_); exact vc0); refine hK _ ?_; clear hK K; refine Run.nq ?_
  refine Run.nq ?_; refine Run.condW (by simp only [AW7, simprocAttr, hX]; rfl) (by simp only [AW7, simprocAttr, hX]) ?_ ?_
  · intro h
    have h : nm = [65, 50] := by simpa using h
    subst h
    refine Run.nq ?_; refine Run.condW (by simp only [AW7, simprocAttr, hX]; rfl) (by simp only [AW7, simprocAttr, hX]) ?_ ?_
    rotate_left
    · intro h; exact absurd h (by decide)
    intro _
    refine Run.nq ?_; refine Run.regionW hC (fun K hK => ?_); simp only [AW7, simprocAttr, hX]; (repeat (with_reducible refine And.intro ?_ ?_); exact vc0)
    refine FunA.callW hP hT (c_l2Chain 2 (by omega)) (by simp only [AW7, simprocAttr]; first | rfl | trivial) ?_
    rintro rs o ⟨rfl, hs, rfl⟩
    (try simp only [AW7, simprocAttr, hX]); (repeat (with_reducible refine And.intro ?_ ?_); exact vc0)
    (repeat (with_reducible refine And.intro ?_ ?_); exact vc0); refine hK _ ?_; clear hK K; refine Run.nq ?_
    refine Run.reK hpin [2, 3] [0] (by decide) (by simp) ?_; simp only [AR, AW7, simprocAttr]
    refine Run.retW [2, 3] (by decide) (by rw [hfn]; rfl) (by simp only [AW7, simprocAttr, hX]; rfl) (by simp only [AW7, simprocAttr, hX]) (hfin _ _ rfl rfl ?_)
    exact ⟨rfl, hs, rfl⟩
  intro n1
  have n1 : ¬ nm = [65, 50] := by simpa using n1
  refine Run.nq ?_; refine Run.regionW hC (fun K hK => ?_); simp only [AW7, simprocAttr, hX]; (repeat (with_reducible refine And.intro ?_ ?_); exact vc0); refine hK _ ?_; clear hK K; refine Run.nq ?_
  refine Run.nq ?_; refine Run.condW (by simp only [AW7, simprocAttr, hX]; rfl) (by simp only [AW7, simprocAttr, hX]) ?_ ?_
  · intro h
    have h : nm = [65, 51] := by simpa using h
    subst h
    refine Run.nq ?_; refine Run.condW (by simp only [AW7, simprocAttr, hX]; rfl) (by simp only [AW7, simprocAttr, hX]) ?_ ?_
    rotate_left
    · intro h; exact absurd h (by decide)
    intro _
    refine Run.nq ?_; refine Run.regionW hC (fun K hK => ?_); simp only [AW7, simprocAttr, hX]; (repeat (with_reducible refine And.intro ?_ ?_); exact vc0)
    refine FunA.callW hP hT (c_l2Chain 3 (by omega)) (by simp only [AW7, simprocAttr]; first | rfl | trivial) ?_
    rintro rs o ⟨rfl, hs, rfl⟩
    (try simp only [AW7, simprocAttr, hX]); (repeat (with_reducible refine And.intro ?_ ?_); exact vc0)
    (repeat (with_reducible refine And.intro ?_ ?_); exact vc0); refine hK _ ?_; clear hK K; refine Run.nq ?_
    refine Run.reK hpin [2, 3] [0] (by decide) (by simp) ?_; simp only [AR, AW7, simprocAttr]
    refine Run.retW [2, 3] (by decide) (by rw [hfn]; rfl) (by simp only [AW7, simprocAttr, hX]; rfl) (by simp only [AW7, simprocAttr, hX]) (hfin _ _ rfl rfl ?_)
    exact ⟨rfl, hs, rfl⟩
  intro n2
  have n2 : ¬ nm = [65, 51] := by simpa using n2
  refine Run.nq ?_; refine Run.regionW hC (fun K hK => ?_); simp only [AW7, simprocAttr, hX]; (repeat (with_reducible refine And.intro ?_ ?_); exact vc0); refine hK _ ?_; clear hK K; refine Run.nq ?_
  refine Run.nq ?_; refine Run.condW (by simp only [AW7, simprocAttr, hX]; rfl) (by simp only [AW7, simprocAttr, hX]) ?_ ?_
  · intro h
    have h : nm = [65, 52] := by simpa using h
    subst h
    refine Run.nq ?_; refine Run.regionW hC (fun K hK => ?_); simp only [AW7, simprocAttr, hX]; (repeat (with_reducible refine And.intro ?_ ?_); exact vc0)
    refine FunA.callW hP hT (c_l2Chain 4 (by omega)) (by simp only [AW7, simprocAttr]; first | rfl | trivial) ?_
    rintro rs o ⟨rfl, hs, rfl⟩
    (try simp only [AW7, simprocAttr, hX]); (repeat (with_reducible refine And.intro ?_ ?_); exact vc0)
    (repeat (with_reducible refine And.intro ?_ ?_); exact vc0); refine hK _ ?_; clear hK K; refine Run.nq ?_
    refine Run.reK hpin [2, 3] [0] (by decide) (by simp) ?_; simp only [AR, AW7, simprocAttr]
    refine Run.retW [2, 3] (by decide) (by rw [hfn]; rfl) (by simp only [AW7, simprocAttr, hX]; rfl) (by simp only [AW7, simprocAttr, hX]) (hfin _ _ rfl rfl ?_)
    exact ⟨rfl, hs, rfl⟩
  intro n3
  have n3 : ¬ nm = [65, 52] := by simpa using n3
  refine Run.nq ?_; refine Run.regionW hC (fun K hK => ?_); simp only [AW7, simprocAttr, hX]; (repeat (with_reducible refine And.intro ?_ ?_); exact vc0); refine hK _ ?_; clear hK K; refine Run.nq ?_
  refine Run.nq ?_; refine Run.condW (by simp only [AW7, simprocAttr, hX]; rfl) (by simp only [AW7, simprocAttr, hX]) ?_ ?_
  · intro h
    have h : nm = [66, 50] := by simpa using h
    subst h
    refine Run.nq ?_; refine Run.regionW hC (fun K hK => ?_); simp only [AW7, simprocAttr, hX]; (repeat (with_reducible refine And.intro ?_ ?_); exact vc0)
    refine FunA.callW hP hT (c_l2Chain 2 (by omega)) (by simp only [AW7, simprocAttr]) ?_
    rintro rs o ⟨rfl, hs, rfl⟩
    (try simp only [AW7, simprocAttr, hX]); (repeat (with_reducible refine And.intro ?_ ?_); exact vc0)
    refine FunA.callW hP hT (c_l2Set (chL 2) 0 1 (-1) (-2) (by decide) (by decide) (by decide) (by decide) (by decide) (by decide)) (by simp only [AW7, simprocAttr]) ?_
    rintro rs o ⟨rfl, hs1, rfl⟩
    (try simp only [AW7, simprocAttr, hX]); (repeat (with_reducible refine And.intro ?_ ?_); exact vc0)
    (repeat (with_reducible refine And.intro ?_ ?_); exact vc0); refine hK _ ?_; clear hK K; refine Run.nq ?_
    refine Run.reK hpin [2, 3] [1] (by decide) (by simp) ?_; simp only [AR, AW7, simprocAttr]
    refine Run.retW [2, 3] (by decide) (by rw [hfn]; rfl) (by simp only [AW7, simprocAttr, hX]; rfl) (by simp only [AW7, simprocAttr, hX]) (hfin _ _ rfl rfl ?_)
    exact ⟨rfl, hs1, rfl⟩
  intro n4
  have n4 : ¬ nm = [66, 50] := by simpa using n4
  refine Run.nq ?_; refine Run.regionW hC (fun K hK => ?_); simp only [AW7, simprocAttr, hX]; (repeat (with_reducible refine And.intro ?_ ?_); exact vc0); refine hK _ ?_; clear hK K; refine Run.nq ?_
  refine Run.nq ?_; refine Run.condW (by simp only [AW7, simprocAttr, hX]; rfl) (by simp only [AW7, simprocAttr, hX]) ?_ ?_
  · intro h
    have h : nm = [66, 51] := by simpa using h
    subst h
    refine Run.nq ?_; refine Run.regionW hC (fun K hK => ?_); simp only [AW7, simprocAttr, hX]; (repeat (with_reducible refine And.intro ?_ ?_); exact vc0)
    refine FunA.callW hP hT (c_l2Chain 3 (by omega)) (by simp only [AW7, simprocAttr]) ?_
    rintro rs o ⟨rfl, hs, rfl⟩
    (try simp only [AW7, simprocAttr, hX]); (repeat (with_reducible refine And.intro ?_ ?_); exact vc0)
    refine FunA.callW hP hT (c_l2Set (chL 3) 1 2 (-1) (-2) (by decide) (by decide) (by decide) (by decide) (by decide) (by decide)) (by simp only [AW7, simprocAttr]) ?_
    rintro rs o ⟨rfl, hs1, rfl⟩
    (try simp only [AW7, simprocAttr, hX]); (repeat (with_reducible refine And.intro ?_ ?_); exact vc0)
    (repeat (with_reducible refine And.intro ?_ ?_); exact vc0); refine hK _ ?_; clear hK K; refine Run.nq ?_
    refine Run.reK hpin [2, 3] [1] (by decide) (by simp) ?_; simp only [AR, AW7, simprocAttr]
    refine Run.retW [2, 3] (by decide) (by rw [hfn]; rfl) (by simp only [AW7, simprocAttr, hX]; rfl) (by simp only [AW7, simprocAttr, hX]) (hfin _ _ rfl rfl ?_)
    exact ⟨rfl, hs1, rfl⟩
  intro n5
  have n5 : ¬ nm = [66, 51] := by simpa using n5
  refine Run.nq ?_; refine Run.regionW hC (fun K hK => ?_); simp only [AW7, simprocAttr, hX]; (repeat (with_reducible refine And.intro ?_ ?_); exact vc0); refine hK _ ?_; clear hK K; refine Run.nq ?_
  refine Run.nq ?_; refine Run.condW (by simp only [AW7, simprocAttr, hX]; rfl) (by simp only [AW7, simprocAttr, hX]) ?_ ?_
  · intro h
    have h : nm = [66, 52] := by simpa using h
    subst h
    refine Run.nq ?_; refine Run.regionW hC (fun K hK => ?_); simp only [AW7, simprocAttr, hX]; (repeat (with_reducible refine And.intro ?_ ?_); exact vc0)
    refine FunA.callW hP hT (c_l2Chain 4 (by omega)) (by simp only [AW7, simprocAttr]) ?_
    rintro rs o ⟨rfl, hs, rfl⟩
    (try simp only [AW7, simprocAttr, hX]); (repeat (with_reducible refine And.intro ?_ ?_); exact vc0)
    refine FunA.callW hP hT (c_l2Set (chL 4) 2 3 (-1) (-2) (by decide) (by decide) (by decide) (by decide) (by decide) (by decide)) (by simp only [AW7, simprocAttr]) ?_
    rintro rs o ⟨rfl, hs1, rfl⟩
    (try simp only [AW7, simprocAttr, hX]); (repeat (with_reducible refine And.intro ?_ ?_); exact vc0)
    (repeat (with_reducible refine And.intro ?_ ?_); exact vc0); refine hK _ ?_; clear hK K; refine Run.nq ?_
    refine Run.reK hpin [2, 3] [1] (by decide) (by simp) ?_; simp only [AR, AW7, simprocAttr]
    refine Run.retW [2, 3] (by decide) (by rw [hfn]; rfl) (by simp only [AW7, simprocAttr, hX]; rfl) (by simp only [AW7, simprocAttr, hX]) (hfin _ _ rfl rfl ?_)
    exact ⟨rfl, hs1, rfl⟩
  intro n6
  have n6 : ¬ nm = [66, 52] := by simpa using n6
  refine Run.nq ?_; refine Run.regionW hC (fun K hK => ?_); simp only [AW7, simprocAttr, hX]; (repeat (with_reducible refine And.intro ?_ ?_); exact vc0); refine hK _ ?_; clear hK K; refine Run.nq ?_
  refine Run.nq ?_; refine Run.condW (by simp only [AW7, simprocAttr, hX]; rfl) (by simp only [AW7, simprocAttr, hX]) ?_ ?_
  · intro h
    have h : nm = [67, 51] := by simpa using h
    subst h
    refine Run.nq ?_; refine Run.regionW hC (fun K hK => ?_); simp only [AW7, simprocAttr, hX]; (repeat (with_reducible refine And.intro ?_ ?_); exact vc0)
    refine FunA.callW hP hT (c_l2Chain 3 (by omega)) (by simp only [AW7, simprocAttr]) ?_
    rintro rs o ⟨rfl, hs, rfl⟩
    (try simp only [AW7, simprocAttr, hX]); (repeat (with_reducible refine And.intro ?_ ?_); exact vc0)
    refine FunA.callW hP hT (c_l2Set (chL 3) 1 2 (-2) (-1) (by decide) (by decide) (by decide) (by decide) (by decide) (by decide)) (by simp only [AW7, simprocAttr]) ?_
    rintro rs o ⟨rfl, hs1, rfl⟩
    (try simp only [AW7, simprocAttr, hX]); (repeat (with_reducible refine And.intro ?_ ?_); exact vc0)
    (repeat (with_reducible refine And.intro ?_ ?_); exact vc0); refine hK _ ?_; clear hK K; refine Run.nq ?_
    refine Run.reK hpin [2, 3] [1] (by decide) (by simp) ?_; simp only [AR, AW7, simprocAttr]
    refine Run.retW [2, 3] (by decide) (by rw [hfn]; rfl) (by simp only [AW7, simprocAttr, hX]; rfl) (by simp only [AW7, simprocAttr, hX]) (hfin _ _ rfl rfl ?_)
    exact ⟨rfl, hs1, rfl⟩
  intro n7
  have n7 : ¬ nm = [67, 51] := by simpa using n7
  refine Run.nq ?_; refine Run.regionW hC (fun K hK => ?_); simp only [AW7, simprocAttr, hX]; (repeat (with_reducible refine And.intro ?_ ?_); exact vc0); refine hK _ ?_; clear hK K; refine Run.nq ?_
  refine Run.nq ?_; refine Run.condW (by simp only [AW7, simprocAttr, hX]; rfl) (by simp only [AW7, simprocAttr, hX]) ?_ ?_
  · intro h
    have h : nm = [67, 52] := by simpa using h
    subst h
    refine Run.nq ?_; refine Run.regionW hC (fun K hK => ?_); simp only [AW7, simprocAttr, hX]; (repeat (with_reducible refine And.intro ?_ ?_); exact vc0)
    refine FunA.callW hP hT (c_l2Chain 4 (by omega)) (by simp only [AW7, simprocAttr]) ?_
    rintro rs o ⟨rfl, hs, rfl⟩
    (try simp only [AW7, simprocAttr, hX]); (repeat (with_reducible refine And.intro ?_ ?_); exact vc0)
    refine FunA.callW hP hT (c_l2Set (chL 4) 2 3 (-2) (-1) (by decide) (by decide) (by decide) (by decide) (by decide) (by decide)) (by simp only [AW7, simprocAttr]) ?_
    rintro rs o ⟨rfl, hs1, rfl⟩
    (try simp only [AW7, simprocAttr, hX]); (repeat (with_reducible refine And.intro ?_ ?_); exact vc0)
    (repeat (with_reducible refine And.intro ?_ ?_); exact vc0); refine hK _ ?_; clear hK K; refine Run.nq ?_
    refine Run.reK hpin [2, 3] [1] (by decide) (by simp) ?_; simp only [AR, AW7, simprocAttr]
    refine Run.retW [2, 3] (by decide) (by rw [hfn]; rfl) (by simp only [AW7, simprocAttr, hX]; rfl) (by simp only [AW7, simprocAttr, hX]) (hfin _ _ rfl rfl ?_)
    exact ⟨rfl, hs1, rfl⟩
  intro n8
  have n8 : ¬ nm = [67, 52] := by simpa using n8
  refine Run.nq ?_; refine Run.regionW hC (fun K hK => ?_); simp only [AW7, simprocAttr, hX]; (repeat (with_reducible refine And.intro ?_ ?_); exact vc0); refine hK _ ?_; clear hK K; refine Run.nq ?_
  refine Run.nq ?_; refine Run.condW (by simp only [AW7, simprocAttr, hX]; rfl) (by simp only [AW7, simprocAttr, hX]) ?_ ?_
  · intro h
    have h : nm = [68, 52] := by simpa using h
    subst h
    refine Run.nq ?_; refine Run.regionW hC (fun K hK => ?_); simp only [AW7, simprocAttr, hX]; (repeat (with_reducible refine And.intro ?_ ?_); exact vc0)
    refine FunA.callW hP hT (c_l2Chain 4 (by omega)) (by simp only [AW7, simprocAttr]) ?_
    rintro rs o ⟨rfl, hs, rfl⟩
    (try simp only [AW7, simprocAttr, hX]); (repeat (with_reducible refine And.intro ?_ ?_); exact vc0)
    refine FunA.callW hP hT (c_l2Set (chL 4) 2 3 (0) (0) (by decide) (by decide) (by decide) (by decide) (by decide) (by decide)) (by simp only [AW7, simprocAttr]) ?_
    rintro rs o ⟨rfl, hs1, rfl⟩
    (try simp only [AW7, simprocAttr, hX]); (repeat (with_reducible refine And.intro ?_ ?_); exact vc0)
    refine FunA.callW hP hT (c_l2Set (set1 (set1 (chL 4) 2 3 (0)) 3 2 (0)) 1 3 (-1) (-1) (by decide) (by decide) (by decide) (by decide) (by decide) (by decide)) (by simp only [AW7, simprocAttr]) ?_
    rintro rs o ⟨rfl, hs2, rfl⟩
    (try simp only [AW7, simprocAttr, hX]); (repeat (with_reducible refine And.intro ?_ ?_); exact vc0)
    (repeat (with_reducible refine And.intro ?_ ?_); exact vc0); refine hK _ ?_; clear hK K; refine Run.nq ?_
    refine Run.reK hpin [2, 3] [2] (by decide) (by simp) ?_; simp only [AR, AW7, simprocAttr]
    refine Run.retW [2, 3] (by decide) (by rw [hfn]; rfl) (by simp only [AW7, simprocAttr, hX]; rfl) (by simp only [AW7, simprocAttr, hX]) (hfin _ _ rfl rfl ?_)
    exact ⟨rfl, hs2, rfl⟩
  intro n9
  have n9 : ¬ nm = [68, 52] := by simpa using n9
  refine Run.nq ?_; refine Run.regionW hC (fun K hK => ?_); simp only [AW7, simprocAttr, hX]; (repeat (with_reducible refine And.intro ?_ ?_); exact vc0); refine hK _ ?_; clear hK K; refine Run.nq ?_
  refine Run.nq ?_; refine Run.condW (by simp only [AW7, simprocAttr, hX]; rfl) (by simp only [AW7, simprocAttr, hX]) ?_ ?_
  · intro h
    have h : nm = [70, 52] := by simpa using h
    subst h
    refine Run.nq ?_; refine Run.regionW hC (fun K hK => ?_); simp only [AW7, simprocAttr, hX]; (repeat (with_reducible refine And.intro ?_ ?_); exact vc0)
    refine FunA.callW hP hT (c_l2Chain 4 (by omega)) (by simp only [AW7, simprocAttr]) ?_
    rintro rs o ⟨rfl, hs, rfl⟩
    (try simp only [AW7, simprocAttr, hX]); (repeat (with_reducible refine And.intro ?_ ?_); exact vc0)
    refine FunA.callW hP hT (c_l2Set (chL 4) 1 2 (-1) (-2) (by decide) (by decide) (by decide) (by decide) (by decide) (by decide)) (by simp only [AW7, simprocAttr]) ?_
    rintro rs o ⟨rfl, hs1, rfl⟩
    (try simp only [AW7, simprocAttr, hX]); (repeat (with_reducible refine And.intro ?_ ?_); exact vc0)
    (repeat (with_reducible refine And.intro ?_ ?_); exact vc0); refine hK _ ?_; clear hK K; refine Run.nq ?_
    refine Run.reK hpin [2, 3] [1] (by decide) (by simp) ?_; simp only [AR, AW7, simprocAttr]
    refine Run.retW [2, 3] (by decide) (by rw [hfn]; rfl) (by simp only [AW7, simprocAttr, hX]; rfl) (by simp only [AW7, simprocAttr, hX]) (hfin _ _ rfl rfl ?_)
    exact ⟨rfl, hs1, rfl⟩
  intro n10
  have n10 : ¬ nm = [70, 52] := by simpa using n10
  refine Run.nq ?_; refine Run.regionW hC (fun K hK => ?_); simp only [AW7, simprocAttr, hX]; (repeat (with_reducible refine And.intro ?_ ?_); exact vc0); refine hK _ ?_; clear hK K; refine Run.nq ?_
  refine Run.nq ?_; refine Run.condW (by simp only [AW7, simprocAttr, hX]; rfl) (by simp only [AW7, simprocAttr, hX]) ?_ ?_
  · intro h
    have h : nm = [71, 50] := by simpa using h
    subst h
    refine Run.nq ?_; refine Run.regionW hC (fun K hK => ?_); simp only [AW7, simprocAttr, hX]; (repeat (with_reducible refine And.intro ?_ ?_); exact vc0)
    refine FunA.callW hP hT (c_l2Chain 2 (by omega)) (by simp only [AW7, simprocAttr]) ?_
    rintro rs o ⟨rfl, hs, rfl⟩
    (try simp only [AW7, simprocAttr, hX]); (repeat (with_reducible refine And.intro ?_ ?_); exact vc0)
    refine FunA.callW hP hT (c_l2Set (chL 2) 0 1 (-1) (-3) (by decide) (by decide) (by decide) (by decide) (by decide) (by decide)) (by simp only [AW7, simprocAttr]) ?_
    rintro rs o ⟨rfl, hs1, rfl⟩
    (try simp only [AW7, simprocAttr, hX]); (repeat (with_reducible refine And.intro ?_ ?_); exact vc0)
    (repeat (with_reducible refine And.intro ?_ ?_); exact vc0); refine hK _ ?_; clear hK K; refine Run.nq ?_
    refine Run.reK hpin [2, 3] [1] (by decide) (by simp) ?_; simp only [AR, AW7, simprocAttr]
    refine Run.retW [2, 3] (by decide) (by rw [hfn]; rfl) (by simp only [AW7, simprocAttr, hX]; rfl) (by simp only [AW7, simprocAttr, hX]) (hfin _ _ rfl rfl ?_)
    exact ⟨rfl, hs1, rfl⟩
  intro n11
  have n11 : ¬ nm = [71, 50] := by simpa using n11
  refine Run.nq ?_; refine Run.regionW hC (fun K hK => ?_); simp only [AW7, simprocAttr, hX]; (repeat (with_reducible refine And.intro ?_ ?_); exact vc0); refine hK _ ?_; clear hK K; refine Run.nq ?_
  refine Run.nq ?_; refine Run.condW (by simp only [AW7, simprocAttr, hX]; rfl) (by simp only [AW7, simprocAttr, hX]) ?_ ?_
  · intro h
    have h : nm = [65, 49, 126] := by simpa using h
    subst h
    refine Run.nq ?_; refine Run.regionW hC (fun K hK => ?_); simp only [AW7, simprocAttr, hX]; (repeat (with_reducible refine And.intro ?_ ?_); exact vc0)
    refine FunA.callW hP hT (c_l2Chain 2 (by omega)) (by simp only [AW7, simprocAttr]) ?_
    rintro rs o ⟨rfl, hs, rfl⟩
    (try simp only [AW7, simprocAttr, hX]); (repeat (with_reducible refine And.intro ?_ ?_); exact vc0)
    refine FunA.callW hP hT (c_l2Set (chL 2) 0 1 (-2) (-2) (by decide) (by decide) (by decide) (by decide) (by decide) (by decide)) (by simp only [AW7, simprocAttr]) ?_
    rintro rs o ⟨rfl, hs1, rfl⟩
    (try simp only [AW7, simprocAttr, hX]); (repeat (with_reducible refine And.intro ?_ ?_); exact vc0)
    (repeat (with_reducible refine And.intro ?_ ?_); exact vc0); refine hK _ ?_; clear hK K; refine Run.nq ?_
    refine Run.reK hpin [2, 3] [1] (by decide) (by simp) ?_; simp only [AR, AW7, simprocAttr]
    refine Run.retW [2, 3] (by decide) (by rw [hfn]; rfl) (by simp only [AW7, simprocAttr, hX]; rfl) (by simp only [AW7, simprocAttr, hX]) (hfin _ _ rfl rfl ?_)
    exact ⟨rfl, hs1, rfl⟩
  intro n12
  have n12 : ¬ nm = [65, 49, 126] := by simpa using n12
  refine Run.nq ?_; refine Run.regionW hC (fun K hK => ?_); simp only [AW7, simprocAttr, hX]; (repeat (with_reducible refine And.intro ?_ ?_); exact vc0); refine hK _ ?_; clear hK K; refine Run.nq ?_
  refine Run.nq ?_; refine Run.condW (by simp only [AW7, simprocAttr, hX]; rfl) (by simp only [AW7, simprocAttr, hX]) ?_ ?_
  · intro h
    have h : nm = [65, 50, 126] := by simpa using h
    subst h
    refine Run.nq ?_; refine Run.regionW hC (fun K hK => ?_); simp only [AW7, simprocAttr, hX]; (repeat (with_reducible refine And.intro ?_ ?_); exact vc0)
    refine FunA.callW hP hT (c_l2Chain 3 (by omega)) (by simp only [AW7, simprocAttr]) ?_
    rintro rs o ⟨rfl, hs, rfl⟩
    (try simp only [AW7, simprocAttr, hX]); (repeat (with_reducible refine And.intro ?_ ?_); exact vc0)
    refine FunA.callW hP hT (c_l2Set (chL 3) 0 2 (-1) (-1) (by decide) (by decide) (by decide) (by decide) (by decide) (by decide)) (by simp only [AW7, simprocAttr]) ?_
    rintro rs o ⟨rfl, hs1, rfl⟩
    (try simp only [AW7, simprocAttr, hX]); (repeat (with_reducible refine And.intro ?_ ?_); exact vc0)
    (repeat (with_reducible refine And.intro ?_ ?_); exact vc0); refine hK _ ?_; clear hK K; refine Run.nq ?_
    refine Run.reK hpin [2, 3] [1] (by decide) (by simp) ?_; simp only [AR, AW7, simprocAttr]
    refine Run.retW [2, 3] (by decide) (by rw [hfn]; rfl) (by simp only [AW7, simprocAttr, hX]; rfl) (by simp only [AW7, simprocAttr, hX]) (hfin _ _ rfl rfl ?_)
    exact ⟨rfl, hs1, rfl⟩
  intro n13
  have n13 : ¬ nm = [65, 50, 126] := by simpa using n13
  refine Run.nq ?_; refine Run.regionW hC (fun K hK => ?_); simp only [AW7, simprocAttr, hX]; (repeat (with_reducible refine And.intro ?_ ?_); exact vc0); refine hK _ ?_; clear hK K; refine Run.nq ?_
  refine Run.nq ?_; refine Run.condW (by simp only [AW7, simprocAttr, hX]; rfl) (by simp only [AW7, simprocAttr, hX]) ?_ ?_
  · intro h
    have h : nm = [65, 51, 126] := by simpa using h
    subst h
    refine Run.nq ?_; refine Run.regionW hC (fun K hK => ?_); simp only [AW7, simprocAttr, hX]; (repeat (with_reducible refine And.intro ?_ ?_); exact vc0)
    refine FunA.callW hP hT (c_l2Chain 4 (by omega)) (by simp only [AW7, simprocAttr]) ?_
    rintro rs o ⟨rfl, hs, rfl⟩
    (try simp only [AW7, simprocAttr, hX]); (repeat (with_reducible refine And.intro ?_ ?_); exact vc0)
    refine FunA.callW hP hT (c_l2Set (chL 4) 0 3 (-1) (-1) (by decide) (by decide) (by decide) (by decide) (by decide) (by decide)) (by simp only [AW7, simprocAttr]) ?_
    rintro rs o ⟨rfl, hs1, rfl⟩
    (try simp only [AW7, simprocAttr, hX]); (repeat (with_reducible refine And.intro ?_ ?_); exact vc0)
    (repeat (with_reducible refine And.intro ?_ ?_); exact vc0); refine hK _ ?_; clear hK K; refine Run.nq ?_
    refine Run.reK hpin [2, 3] [1] (by decide) (by simp) ?_; simp only [AR, AW7, simprocAttr]
    refine Run.retW [2, 3] (by decide) (by rw [hfn]; rfl) (by simp only [AW7, simprocAttr, hX]; rfl) (by simp only [AW7, simprocAttr, hX]) (hfin _ _ rfl rfl ?_)
    exact ⟨rfl, hs1, rfl⟩
  intro n14
  have n14 : ¬ nm = [65, 51, 126] := by simpa using n14
  refine Run.nq ?_; refine Run.regionW hC (fun K hK => ?_); simp only [AW7, simprocAttr, hX]; (repeat (with_reducible refine And.intro ?_ ?_); exact vc0); refine hK _ ?_; clear hK K; refine Run.nq ?_
  refine Run.nq ?_; refine Run.condW (by simp only [AW7, simprocAttr, hX]; rfl) (by simp only [AW7, simprocAttr, hX]) ?_ ?_
  · intro h
    have h : nm = [67, 50, 126] := by simpa using h
    subst h
    refine Run.nq ?_; refine Run.regionW hC (fun K hK => ?_); simp only [AW7, simprocAttr, hX]; (repeat (with_reducible refine And.intro ?_ ?_); exact vc0)
    refine FunA.callW hP hT (c_l2Chain 3 (by omega)) (by simp only [AW7, simprocAttr]) ?_
    rintro rs o ⟨rfl, hs, rfl⟩
    (try simp only [AW7, simprocAttr, hX]); (repeat (with_reducible refine And.intro ?_ ?_); exact vc0)
    refine FunA.callW hP hT (c_l2Set (chL 3) 0 1 (-1) (-2) (by decide) (by decide) (by decide) (by decide) (by decide) (by decide)) (by simp only [AW7, simprocAttr]) ?_
    rintro rs o ⟨rfl, hs1, rfl⟩
    (try simp only [AW7, simprocAttr, hX]); (repeat (with_reducible refine And.intro ?_ ?_); exact vc0)
    refine FunA.callW hP hT (c_l2Set (set1 (set1 (chL 3) 0 1 (-1)) 1 0 (-2)) 1 2 (-2) (-1) (by decide) (by decide) (by decide) (by decide) (by decide) (by decide)) (by simp only [AW7, simprocAttr]) ?_
    rintro rs o ⟨rfl, hs2, rfl⟩
    (try simp only [AW7, simprocAttr, hX]); (repeat (with_reducible refine And.intro ?_ ?_); exact vc0)
    (repeat (with_reducible refine And.intro ?_ ?_); exact vc0); refine hK _ ?_; clear hK K; refine Run.nq ?_
    refine Run.reK hpin [2, 3] [2] (by decide) (by simp) ?_; simp only [AR, AW7, simprocAttr]
    refine Run.retW [2, 3] (by decide) (by rw [hfn]; rfl) (by simp only [AW7, simprocAttr, hX]; rfl) (by simp only [AW7, simprocAttr, hX]) (hfin _ _ rfl rfl ?_)
    exact ⟨rfl, hs2, rfl⟩
  intro n15
  have n15 : ¬ nm = [67, 50, 126] := by simpa using n15
  refine Run.nq ?_; refine Run.regionW hC (fun K hK => ?_); simp only [AW7, simprocAttr, hX]; (repeat (with_reducible refine And.intro ?_ ?_); exact vc0); refine hK _ ?_; clear hK K; refine Run.nq ?_
  refine Run.nq ?_; refine Run.condW (by simp only [AW7, simprocAttr, hX]; rfl) (by simp only [AW7, simprocAttr, hX]) ?_ ?_
  · intro h
    have h : nm = [71, 50, 126] := by simpa using h
    subst h
    refine Run.nq ?_; refine Run.regionW hC (fun K hK => ?_); simp only [AW7, simprocAttr, hX]; (repeat (with_reducible refine And.intro ?_ ?_); exact vc0)
    refine FunA.callW hP hT (c_l2Chain 3 (by omega)) (by simp only [AW7, simprocAttr]) ?_
    rintro rs o ⟨rfl, hs, rfl⟩
    (try simp only [AW7, simprocAttr, hX]); (repeat (with_reducible refine And.intro ?_ ?_); exact vc0)
    refine FunA.callW hP hT (c_l2Set (chL 3) 1 2 (-1) (-3) (by decide) (by decide) (by decide) (by decide) (by decide) (by decide)) (by simp only [AW7, simprocAttr]) ?_
    rintro rs o ⟨rfl, hs1, rfl⟩
    (try simp only [AW7, simprocAttr, hX]); (repeat (with_reducible refine And.intro ?_ ?_); exact vc0)
    (repeat (with_reducible refine And.intro ?_ ?_); exact vc0); refine hK _ ?_; clear hK K; refine Run.nq ?_
    refine Run.reK hpin [2, 3] [1] (by decide) (by simp) ?_; simp only [AR, AW7, simprocAttr]
    refine Run.retW [2, 3] (by decide) (by rw [hfn]; rfl) (by simp only [AW7, simprocAttr, hX]; rfl) (by simp only [AW7, simprocAttr, hX]) (hfin _ _ rfl rfl ?_)
    exact ⟨rfl, hs1, rfl⟩
  intro n16
  have n16 : ¬ nm = [71, 50, 126] := by simpa using n16
  exact absurd hm (by simp [tcN, n0, n1, n2, n3, n4, n5, n6, n7, n8, n9, n10, n11, n12, n13, n14, n15, n16])
end Go.Proofs.YtojcdgdbffmlpaaGreat

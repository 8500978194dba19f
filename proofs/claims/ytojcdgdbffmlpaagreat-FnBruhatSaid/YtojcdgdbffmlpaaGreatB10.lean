/- The join of two matrices: its size. -/
import Derived.Test.YtojcdgdbffmlpaaGreatB9
set_option linter.unusedVariables false
set_option linter.unusedSimpArgs false
namespace Go.Proofs.YtojcdgdbffmlpaaGreat
open Go Go.Aw
theorem c_JoinCartansR (a b : List (List Int)) (ha : CartanP a) (hb : CartanP b) (hl : a.length + b.length ≤ 4) :
    FunA B 224 [.sl false (.row false) a, .sl false (.row false) b] (fun rs o => ∃ ys g nn rest, (((rw2 ys).length = a.length + b.length ∧ ∀ r ∈ rw2 ys, r.length = a.length + b.length) ∧ nn = true ∧ rest = [.bool true]) ∧ (lb1 ys).Nodup ∧ rest.all flatAV = true ∧ rs = .own 0 g :: rest ∧ o = [.arr .lrow ys g nn]) := by
  have ha0 := ha.1
  have hb0 := hb.1
  refine FunA.walk B_ok (fn := Tryz.f224) (fun vs w => Tryz.call224 vs w) Tryz.func224 rfl (by rw [Tryz.ntmps224]; simp) (fun C hC hP hT hΓ hbt hfn hpin hfin => ?_); have hX := BX; rw [← hΓ, ← hbt.1, ← hbt.2] at hX; rw [Tryz.ntmps224]; simp only [AW7, simprocAttr, hX]
  refine Run.nq ?_; refine Run.regionW hC (fun K hK => ?_); simp only [AW7, simprocAttr, hX]; (repeat (with_reducible refine And.intro ?_ ?_); exact vc0); refine hK _ ?_; clear hK K; refine Run.nq ?_
  refine Run.nq ?_; refine Run.regionW hC (fun K hK => ?_); simp only [AW7, simprocAttr, hX]; (repeat (with_reducible refine And.intro ?_ ?_); exact vc0)
  refine FunA.callW hP hT (c_spec_IsCartan a) (by simp only [AW7, simprocAttr]) ?_
  rintro rs o ⟨rfl, rfl⟩
  (try simp only [AW7, simprocAttr, hX]); (repeat (with_reducible refine And.intro ?_ ?_); exact vc0)
  refine .inl (FunA.callG hP hT (c_spec_IsCartan b) (fun _ => rfl) (fun _ => by simp only [AW7, simprocAttr]) ?_)
  rw [isC_true ha, isC_true hb]
  simp (disch := omega) only [wrap_id, AW7, simprocAttr, hX]; (repeat (with_reducible refine And.intro ?_ ?_); exact vc0)
  (repeat (with_reducible refine And.intro ?_ ?_); exact vc0); refine hK _ ?_; clear hK K; refine Run.nq ?_
  refine Run.nq ?_; refine Run.condW (by simp only [AW7, simprocAttr, hX]; rfl) (by simp only [AW7, simprocAttr, hX]) ?_ ?_
  · intro h
    exfalso
    revert h
    have : ¬ ((a.length : Int) + b.length > 4) := by omega
    simp [this]
  intro _
  refine Run.nq ?_; refine Run.regionW hC (fun K hK => ?_); simp only [AW7, simprocAttr, hX]; (repeat (with_reducible refine And.intro ?_ ?_); exact vc0); refine hK _ ?_; clear hK K; refine Run.nq ?_
  refine Run.nq ?_; refine Run.regionW hC (fun K hK => ?_); simp only [AW7, simprocAttr, hX]; (repeat (with_reducible refine And.intro ?_ ?_); exact vc0); refine hK _ ?_; clear hK K; refine Run.nq ?_
  refine Run.reK hpin [0, 1, 6, 7] [0] (by decide) (by simp) ?_; simp only [AR, AW7, simprocAttr]
  refine Run.loopI (X := List (Nat × List Int) × Nat) (fun y => ⟨63, [(0, true, .v (.sl false (.row false) (a))), (1, true, .v (.sl false (.row false) (b))), (6, true, .v (.own 0 0)), (7, true, .v (.int .i64 (y.2)))], [.arr .lrow (y.1) 0 true]⟩) (fun y => y.2 ≤ a.length ∧ y.1.length = y.2 ∧ (∀ r ∈ rw2 y.1, r.length = a.length + b.length) ∧ (lb1 y.1).Nodup) (fun y => a.length - y.2) (([], 0)) (⟨Nat.zero_le _, rfl, by simp [rw2], by simp [lb1]⟩) ?_ ?_
  · exact Le.sub (by first | rfl | simp) (by simp only [AW7, simprocAttr, hX]; try simp <;> try (first | rfl | exact ⟨rfl, rfl⟩ | exact ⟨rfl, rfl, rfl⟩))
  rintro ⟨ys, i⟩ ⟨hi, hyl, hE, hN⟩ ih
  try simp only []
  simp only [] at hi hE hN hyl
  refine Run.nq ?_; refine Run.regionW hC (fun K hK => ?_); simp only [AW7, simprocAttr, hX]; (repeat (with_reducible refine And.intro ?_ ?_); exact vc0); refine hK _ ?_; clear hK K; refine Run.nq ?_
  refine Run.nq ?_; refine Run.condW (by simp only [AW7, simprocAttr, hX]; rfl) (by simp only [AW7, simprocAttr, hX]) ?_ ?_
  · intro h
    have h : i < a.length := by rw [decide_eq_true_eq] at h; omega
    have hal : (a.getD i []).length = a.length := by
      have := ha.2.2.1 i h
      exact this
    refine Run.nq ?_; refine Run.regionW hC (fun K hK => ?_); simp only [AW7, simprocAttr, hX]; (repeat (with_reducible refine And.intro ?_ ?_); exact vc0)
    refine fun q hq => ⟨by simp only [List.length_cons, List.length_nil]; omega, ?_⟩
    (repeat (with_reducible refine And.intro ?_ ?_); exact vc0); refine hK _ ?_; clear hK K; refine Run.nq ?_
    refine Run.reK hpin [0, 1, 6, 7] [0] (by decide) (by simp) ?_; simp only [AR, AW7, simprocAttr]
    have hnd2 : (lb1 (ys ++ [(q, a.getD i [] ++ List.replicate b.length 0)])).Nodup := by
      rw [lb1_app, List.nodup_append]
      refine ⟨hN, by simp [lb1], fun a ha b hb => ?_⟩
      simp [lb1] at hb
      subst hb
      obtain ⟨p, hp, rfl⟩ := List.mem_map.1 ha
      exact hq _ (List.mem_cons_self ..) _ _ _ rfl p hp
    have hE2 : ∀ r ∈ rw2 (ys ++ [(q, a.getD i [] ++ List.replicate b.length 0)]), r.length = a.length + b.length := by
      intro r hr
      have : rw2 (ys ++ [(q, a.getD i [] ++ List.replicate b.length 0)]) = rw2 ys ++ [a.getD i [] ++ List.replicate b.length 0] := by simp [rw2]
      rw [this, List.mem_append] at hr
      rcases hr with hr | hr
      · exact hE r hr
      · rw [List.mem_singleton] at hr
        rw [hr, List.length_append, hal, List.length_replicate]
    refine Run.nq ?_; refine Run.regionW hC (fun K hK => ?_); simp (disch := omega) only [wrap_id, AW7, simprocAttr, hX]; (repeat (with_reducible refine And.intro ?_ ?_); exact vc0); refine hK _ ?_; clear hK K; refine Run.nq ?_
    refine Run.le ?_ (ih ((ys ++ [(q, a.getD i [] ++ List.replicate b.length 0)], i + 1)) (⟨h, by simp [hyl], hE2, hnd2⟩) (by (try simp only [List.length_append, List.length_cons, List.length_nil]); omega))
    exact Le.sub (by rfl) (by simp only [AW7, simprocAttr]; try simp)
  intro h
  have h : i = a.length := by rw [decide_eq_false_iff_not] at h; omega
  subst h
  clear ih
  refine Run.exit rfl ?_; refine Run.nq ?_
  refine Run.nq ?_; refine Run.regionW hC (fun K hK => ?_); simp only [AW7, simprocAttr, hX]; (repeat (with_reducible refine And.intro ?_ ?_); exact vc0); refine hK _ ?_; clear hK K; refine Run.nq ?_
  refine Run.reK hpin [0, 1, 6, 8] [0] (by decide) (by simp) ?_; simp only [AR, AW7, simprocAttr]
  refine Run.loopI (X := List (Nat × List Int) × Nat) (fun y => ⟨63, [(0, true, .v (.sl false (.row false) (a))), (1, true, .v (.sl false (.row false) (b))), (6, true, .v (.own 0 0)), (8, true, .v (.int .i64 (y.2)))], [.arr .lrow (y.1) 0 true]⟩) (fun y => y.2 ≤ b.length ∧ y.1.length = a.length + y.2 ∧ (∀ r ∈ rw2 y.1, r.length = a.length + b.length) ∧ (lb1 y.1).Nodup) (fun y => b.length - y.2) ((ys, 0)) (⟨Nat.zero_le _, by simp [hyl], hE, hN⟩) ?_ ?_
  · exact Le.sub (by first | rfl | simp) (by simp only [AW7, simprocAttr, hX]; try simp <;> try (first | rfl | exact ⟨rfl, rfl⟩ | exact ⟨rfl, rfl, rfl⟩))
  rintro ⟨ys, i⟩ ⟨hi, hyl, hE, hN⟩ ih
  try simp only []
  simp only [] at hi hE hN hyl
  refine Run.nq ?_; refine Run.regionW hC (fun K hK => ?_); simp only [AW7, simprocAttr, hX]; (repeat (with_reducible refine And.intro ?_ ?_); exact vc0); refine hK _ ?_; clear hK K; refine Run.nq ?_
  refine Run.nq ?_; refine Run.condW (by simp only [AW7, simprocAttr, hX]; rfl) (by simp only [AW7, simprocAttr, hX]) ?_ ?_
  · intro h
    have h : i < b.length := by rw [decide_eq_true_eq] at h; omega
    have hal : (b.getD i []).length = b.length := hb.2.2.1 i h
    refine Run.nq ?_; refine Run.regionD hC true [0,1,2,4,5,6,7,3,8,9,10,11] (by kernel_rfl) (fun K hK => ?_); simp only [AW7, simprocAttr, hX]; (repeat (with_reducible refine And.intro ?_ ?_); exact vc0)
    refine fun q hq => ⟨by simp only [List.length_cons, List.length_nil]; omega, ?_⟩
    (repeat (with_reducible refine And.intro ?_ ?_); exact vc0); refine hK _ ?_; clear hK K; refine Run.nq ?_
    refine Run.reK hpin [0, 1, 6, 8] [0] (by decide) (by simp) ?_; simp only [AR, AW7, simprocAttr]
    have hnd2 : (lb1 (ys ++ [(q, List.replicate a.length 0 ++ b.getD i [])])).Nodup := by
      rw [lb1_app, List.nodup_append]
      refine ⟨hN, by simp [lb1], fun a ha b hb => ?_⟩
      simp [lb1] at hb
      subst hb
      obtain ⟨p, hp, rfl⟩ := List.mem_map.1 ha
      exact hq _ (List.mem_cons_self ..) _ _ _ rfl p hp
    have hE2 : ∀ r ∈ rw2 (ys ++ [(q, List.replicate a.length 0 ++ b.getD i [])]), r.length = a.length + b.length := by
      intro r hr
      have : rw2 (ys ++ [(q, List.replicate a.length 0 ++ b.getD i [])]) = rw2 ys ++ [List.replicate a.length 0 ++ b.getD i []] := by simp [rw2]
      rw [this, List.mem_append] at hr
      rcases hr with hr | hr
      · exact hE r hr
      · rw [List.mem_singleton] at hr
        rw [hr, List.length_append, hal, List.length_replicate]
    refine Run.nq ?_; refine Run.regionW hC (fun K hK => ?_); simp (disch := omega) only [wrap_id, AW7, simprocAttr, hX]; (repeat (with_reducible refine And.intro ?_ ?_); exact vc0); refine hK _ ?_; clear hK K; refine Run.nq ?_
    refine Run.le ?_ (ih ((ys ++ [(q, List.replicate a.length 0 ++ b.getD i [])], i + 1)) (⟨h, by simp [hyl]; omega, hE2, hnd2⟩) (by (try simp only [List.length_append, List.length_cons, List.length_nil]); omega))
    exact Le.sub (by rfl) (by simp only [AW7, simprocAttr]; try simp)
  intro h
  have h : i = b.length := by rw [decide_eq_false_iff_not] at h; omega
  subst h
  refine Run.exit rfl ?_; refine Run.nq ?_
  refine Run.nq ?_; refine Run.regionW hC (fun K hK => ?_); simp only [AW7, simprocAttr, hX]; (repeat (with_reducible refine And.intro ?_ ?_); exact vc0); refine hK _ ?_; clear hK K; refine Run.nq ?_
  refine Run.reK hpin [4, 5] [0] (by decide) (by simp) ?_; simp only [AR, AW7, simprocAttr]
  refine Run.retW [4, 5] (by decide) (by rw [hfn]; rfl) (by simp only [AW7, simprocAttr, hX]; rfl) (by simp only [AW7, simprocAttr, hX]) (hfin _ _ rfl rfl ?_)
  exact ⟨ys, 0, true, [.bool true], ⟨⟨by rw [← hyl]; simp [rw2], hE⟩, rfl, rfl⟩, hN, rfl, rfl, rfl⟩
theorem c_JoinCartans (a b : List (List Int)) (ha : CartanP a) (hb : CartanP b) (hl : a.length + b.length ≤ 4) :
    FunA B 224 [.sl false (.row false) a, .sl false (.row false) b] (fun rs o => rs = [.own 0 0, .bool true] ∧ ∃ hs rows, o = [.mat hs rows 0 true] ∧ rows.length = a.length + b.length ∧ ∀ r ∈ rows, r.length = a.length + b.length) :=
  (FunA.mat (by rfl) (post := fun rows nn rest => (rows.length = a.length + b.length ∧ ∀ r ∈ rows, r.length = a.length + b.length) ∧ nn = true ∧ rest = [.bool true]) (c_JoinCartansR a b ha hb hl)).mono fun rs o ⟨hs, rows, nn, rest, ⟨h1, h2, h3⟩, h4, h5, h6⟩ => by subst h2 h3; exact ⟨h5, hs, rows, h6, h1⟩
end Go.Proofs.YtojcdgdbffmlpaaGreat
namespace Go.Proofs.YtojcdgdbffmlpaaGreat
open Go Go.Aw
def SqM (c : List (List Int)) : Prop := 1 ≤ c.length ∧ c.length ≤ 4 ∧ ∀ r ∈ c, r.length = c.length
instance (c : List (List Int)) : Decidable (SqM c) := by unfold SqM; infer_instance
theorem SqM.row {c : List (List Int)} (h : SqM c) {i : Nat} (hi : i < c.length) : (c.getD i []).length = c.length := by
  rw [List.getD_eq_getElem?_getD, List.getElem?_eq_getElem hi]
  exact h.2.2 _ (List.getElem_mem hi)
theorem SqM.set1 {c : List (List Int)} (h : SqM c) (i j : Nat) (a : Int) : SqM (set1 c i j a) := by
  have e := set1_len c i j a
  refine ⟨by rw [e]; exact h.1, by rw [e]; exact h.2.1, fun r hr => ?_⟩
  rw [e]
  obtain ⟨k, hk, rfl⟩ := List.getElem_of_mem hr
  have hr := set1_row c i j k a
  rw [List.getD_eq_getElem?_getD, List.getElem?_eq_getElem hk] at hr
  simp only [Option.getD_some] at hr
  rw [hr]
  exact h.row (by omega)
def fN : List (List UInt8) := [[65, 49], [65, 50], [65, 50], [65, 51], [65, 51], [66, 50], [66, 50], [66, 51], [67, 51], [71, 50]]
def iN : List (List UInt8) := [[65, 49, 126], [65, 50, 126], [67, 50, 126], [71, 50, 126], [65, 51, 126], [68, 52], [65, 52]]
theorem fN_ok : ∀ n ∈ fN, n ∈ tcN ∧ SqM (tcM n) := by decide
theorem iN_ok : ∀ n ∈ iN, n ∈ tcN ∧ SqM (tcM n) := by decide
theorem sq_cartan {c : List (List Int)} (h : SqM c) (hb : ∀ i ∈ List.range c.length, ∀ j ∈ List.range c.length, ¬ ((i = j ∧ ent c i j ≠ 2) ∨ (i ≠ j ∧ (ent c i j < -3 ∨ ent c i j > 0 ∨ ¬ (ent c i j = 0 ↔ ent c j i = 0))))) : CartanP c :=
  ⟨h.1, h.2.1, fun i hi => h.row hi, fun i j hi hj => hb i (List.mem_range.2 hi) j (List.mem_range.2 hj)⟩
theorem fN_car : ∀ n ∈ fN, (tcM n).length < 3 → ∀ i ∈ List.range (tcM n).length, ∀ j ∈ List.range (tcM n).length, ¬ ((i = j ∧ ent (tcM n) i j ≠ 2) ∨ (i ≠ j ∧ (ent (tcM n) i j < -3 ∨ ent (tcM n) i j > 0 ∨ ¬ (ent (tcM n) i j = 0 ↔ ent (tcM n) j i = 0)))) := by decide
def SqO (s : Value) (o : List O) : Prop := ∃ hs c, SqM c ∧ o = [.cur s 0, .mat hs c 0 true]
theorem c_l2Finite (s : Value) : FunO B 192 [.own 0 0] (.cur s 0) (fun rs o => rs = [.own 1 0] ∧ SqO s o) := by
  refine FunO.walk B_ok (fn := Tryz.f192) (fun vs w => Tryz.call192 vs w) Tryz.func192 rfl (by rw [Tryz.ntmps192]; simp) (fun C hC hP hT hΓ hbt hfn hpin hfin => ?_); have hX := BX; rw [← hΓ, ← hbt.1, ← hbt.2] at hX; rw [Tryz.ntmps192]; simp only [AW7, simprocAttr, hX]
  refine Run.nq ?_; refine Run.regionW hC (fun K hK => ?_); simp only [AW7, simprocAttr, hX]; (repeat (with_reducible refine And.intro ?_ ?_); exact vc0); refine hK _ ?_; clear hK K; refine Run.nq ?_
  refine Run.nq ?_; refine Run.regionW hC (fun K hK => ?_); simp only [AW7, simprocAttr, hX]; (repeat (with_reducible refine And.intro ?_ ?_); exact vc0)
  refine ⟨by simp [maxLen], ?_⟩
  refine FunO.callCur hP hT (c_l1Pick s fN (by decide) (by decide)) 0 0 (by first | rfl | (simp only [AW7, simprocAttr]; done) | (simp only [AW7, simprocAttr]; rfl)) (by simp only [AW7, simprocAttr]; exact ⟨by decide, rfl⟩) ?_
  rintro rs o' obs' ⟨nm, rfl, hnm, ho⟩
  injection ho with ho1 ho2; subst ho1 ho2
  obtain ⟨hm, hsq⟩ := fN_ok nm hnm
  have hcar := fN_car nm hnm
  (try simp only [AW7, simprocAttr, hX]); (repeat (with_reducible refine And.intro ?_ ?_); exact vc0)
  refine FunA.callW hP hT (c_TypeCartan nm hm) (by simp only [AW7, simprocAttr]) ?_
  rintro rs o ⟨rfl, hs, rfl⟩
  (try simp only [AW7, simprocAttr, hX]); (repeat (with_reducible refine And.intro ?_ ?_); exact vc0)
  (repeat (with_reducible refine And.intro ?_ ?_); exact vc0); refine hK _ ?_; clear hK K; refine Run.nq ?_
  refine Run.reKP hpin [0, 3] [0, 2] rfl (by simp [oAt, gen0]) (by decide) (by simp) ?_; simp only [AR, AW7, simprocAttr]
  by_cases h3 : (tcM nm).length < 3
  · have hd : decide (((tcM nm).length : Int) < 3) = true := by rw [decide_eq_true_eq]; omega
    have hca : CartanP (tcM nm) := sq_cartan hsq (hcar h3)
    have hcb : CartanP (tcM [65, 49]) := sq_cartan (fN_ok [65, 49] (by decide)).2 (fN_car [65, 49] (by decide) (by decide))
    have hl1 : (tcM [65, 49]).length = 1 := by decide
    refine Run.nq ?_; refine Run.regionW hC (fun K hK => ?_); simp only [AW7, simprocAttr, hX]; (repeat (with_reducible refine And.intro ?_ ?_); exact vc0)
    rw [hd]
    refine .inr ⟨rfl, ?_⟩
    refine FunO.callCur hP hT (c_l1Once s 4 (by decide) (by decide)) 0 0 (by first | rfl | (simp only [AW7, simprocAttr]; done) | (simp only [AW7, simprocAttr]; rfl)) (by simp only [AW7, simprocAttr]) ?_
    rintro rs o' obs' ⟨x, rfl, ho⟩
    injection ho with ho1 ho2; subst ho1 ho2
    (try simp only [AW7, simprocAttr, hX]); (repeat (with_reducible refine And.intro ?_ ?_); exact vc0)
    (repeat (with_reducible refine And.intro ?_ ?_); exact vc0); refine hK _ ?_; clear hK K; refine Run.nq ?_
    refine Run.reKP hpin [0, 3, 22] [0, 1] rfl (by simp [oAt, gen0]) (by decide) (by simp) ?_; simp only [AR, AW7, simprocAttr]
    refine Run.nq ?_; refine Run.condW (by simp only [AW7, simprocAttr, hX]; rfl) (by simp only [AW7, simprocAttr, hX]) ?_ ?_
    · intro hx
      refine Run.nq ?_; refine Run.regionW hC (fun K hK => ?_); simp only [AW7, simprocAttr, hX]; (repeat (with_reducible refine And.intro ?_ ?_); exact vc0)
      refine FunA.callW hP hT (c_TypeCartan [65, 49] (by decide)) (by simp only [AW7, simprocAttr]) ?_
      rintro rs o ⟨rfl, hs1, rfl⟩
      (try simp only [AW7, simprocAttr, hX]); (repeat (with_reducible refine And.intro ?_ ?_); exact vc0)
      (repeat (with_reducible refine And.intro ?_ ?_); exact vc0); refine hK _ ?_; clear hK K; refine Run.nq ?_
      refine Run.nq ?_; refine Run.regionW hC (fun K hK => ?_); simp only [AW7, simprocAttr, hX]; (repeat (with_reducible refine And.intro ?_ ?_); exact vc0)
      refine FunA.callW hP hT (c_JoinCartans (tcM nm) (tcM [65, 49]) hca hcb (by omega)) (by simp only [AW7, simprocAttr]) ?_
      rintro rs o ⟨rfl, hs2, rows, rfl, hr1, hr2⟩
      (try simp only [AW7, simprocAttr, hX]); (repeat (with_reducible refine And.intro ?_ ?_); exact vc0)
      (repeat (with_reducible refine And.intro ?_ ?_); exact vc0); refine hK _ ?_; clear hK K; refine Run.nq ?_
      refine Run.nq ?_; refine Run.regionW hC (fun K hK => ?_); simp only [AW7, simprocAttr, hX]; (repeat (with_reducible refine And.intro ?_ ?_); exact vc0); refine hK _ ?_; clear hK K; refine Run.nq ?_
      refine Run.reKP hpin [0, 2] [0, 3] rfl (by simp [oAt, gen0]) (by decide) (by simp) ?_; simp only [AR, AW7, simprocAttr]
      refine Run.retW [2] (by decide) (by rw [hfn]; rfl) (by simp only [AW7, simprocAttr, hX]; rfl) (by simp only [AW7, simprocAttr, hX]) (hfin _ _ _ rfl rfl ⟨rfl, rfl⟩ ?_)
      exact ⟨rfl, hs2, rows, ⟨by omega, by omega, fun r hr => by rw [hr2 r hr, hr1]⟩, rfl⟩
    intro hx
    refine Run.nq ?_; refine Run.regionW hC (fun K hK => ?_); simp only [AW7, simprocAttr, hX]; (repeat (with_reducible refine And.intro ?_ ?_); exact vc0); refine hK _ ?_; clear hK K; refine Run.nq ?_
    refine Run.reKP hpin [0, 2] [0, 1] rfl (by simp [oAt, gen0]) (by decide) (by simp) ?_; simp only [AR, AW7, simprocAttr]
    refine Run.retW [2] (by decide) (by rw [hfn]; rfl) (by simp only [AW7, simprocAttr, hX]; rfl) (by simp only [AW7, simprocAttr, hX]) (hfin _ _ _ rfl rfl ⟨rfl, rfl⟩ ?_)
    exact ⟨rfl, hs, _, hsq, rfl⟩
  have hd : decide (((tcM nm).length : Int) < 3) = false := by rw [decide_eq_false_iff_not]; omega
  refine Run.nq ?_; refine Run.regionW hC (fun K hK => ?_); simp only [AW7, simprocAttr, hX]; (repeat (with_reducible refine And.intro ?_ ?_); exact vc0)
  rw [hd]
  refine .inl (CallG.off (.bool false) ?_)
  (try simp only [AW7, simprocAttr, hX]); (repeat (with_reducible refine And.intro ?_ ?_); exact vc0)
  (repeat (with_reducible refine And.intro ?_ ?_); exact vc0); refine hK _ ?_; clear hK K; refine Run.nq ?_
  refine Run.nq ?_; refine Run.condW (by simp only [AW7, simprocAttr, hX]; rfl) (by simp only [AW7, simprocAttr, hX]) ?_ ?_
  · intro h; exact absurd h (by simp)
  intro _
  refine Run.nq ?_; refine Run.regionW hC (fun K hK => ?_); simp only [AW7, simprocAttr, hX]; (repeat (with_reducible refine And.intro ?_ ?_); exact vc0); refine hK _ ?_; clear hK K; refine Run.nq ?_
  refine Run.reKP hpin [0, 2] [0, 1] rfl (by simp [oAt, gen0]) (by decide) (by simp) ?_; simp only [AR, AW7, simprocAttr]
  refine Run.retW [2] (by decide) (by rw [hfn]; rfl) (by simp only [AW7, simprocAttr, hX]; rfl) (by simp only [AW7, simprocAttr, hX]) (hfin _ _ _ rfl rfl ⟨rfl, rfl⟩ ?_)
  exact ⟨rfl, hs, _, hsq, rfl⟩
theorem c_l2Infinite (s : Value) : FunO B 233 [.own 0 0] (.cur s 0) (fun rs o => rs = [.own 1 0] ∧ SqO s o) := by
  refine FunO.walk B_ok (fn := Tryz.f233) (fun vs w => Tryz.call233 vs w) Tryz.func233 rfl (by rw [Tryz.ntmps233]; simp) (fun C hC hP hT hΓ hbt hfn hpin hfin => ?_); have hX := BX; rw [← hΓ, ← hbt.1, ← hbt.2] at hX; rw [Tryz.ntmps233]; simp only [AW7, simprocAttr, hX]
  refine Run.nq ?_; refine Run.regionW hC (fun K hK => ?_); simp only [AW7, simprocAttr, hX]; (repeat (with_reducible refine And.intro ?_ ?_); exact vc0); refine hK _ ?_; clear hK K; refine Run.nq ?_
  refine Run.nq ?_; refine Run.regionW hC (fun K hK => ?_); simp only [AW7, simprocAttr, hX]; (repeat (with_reducible refine And.intro ?_ ?_); exact vc0)
  refine ⟨by simp [maxLen], ?_⟩
  refine FunO.callCur hP hT (c_l1Pick s iN (by decide) (by decide)) 0 0 (by first | rfl | (simp only [AW7, simprocAttr]; done) | (simp only [AW7, simprocAttr]; rfl)) (by simp only [AW7, simprocAttr]; exact ⟨by decide, rfl⟩) ?_
  rintro rs o' obs' ⟨nm, rfl, hnm, ho⟩
  injection ho with ho1 ho2; subst ho1 ho2
  obtain ⟨hm, hsq⟩ := iN_ok nm hnm
  have hl := hsq.1
  have hl4 := hsq.2.1
  (try simp only [AW7, simprocAttr, hX]); (repeat (with_reducible refine And.intro ?_ ?_); exact vc0)
  refine FunA.callW hP hT (c_TypeCartan nm hm) (by simp only [AW7, simprocAttr]) ?_
  rintro rs o ⟨rfl, hs, rfl⟩
  (try simp only [AW7, simprocAttr, hX]); (repeat (with_reducible refine And.intro ?_ ?_); exact vc0)
  (repeat (with_reducible refine And.intro ?_ ?_); exact vc0); refine hK _ ?_; clear hK K; refine Run.nq ?_
  refine Run.reKP hpin [0, 3] [0, 2] rfl (by simp [oAt, gen0]) (by decide) (by simp) ?_; simp only [AR, AW7, simprocAttr]
  refine Run.nq ?_; refine Run.regionW hC (fun K hK => ?_); simp only [AW7, simprocAttr, hX]; (repeat (with_reducible refine And.intro ?_ ?_); exact vc0)
  refine FunO.callCur hP hT (c_l1Once s 3 (by decide) (by decide)) 0 0 (by first | rfl | (simp only [AW7, simprocAttr]; done) | (simp only [AW7, simprocAttr]; rfl)) (by simp only [AW7, simprocAttr]) ?_
  rintro rs o' obs' ⟨x, rfl, ho⟩
  injection ho with ho1 ho2; subst ho1 ho2
  (try simp only [AW7, simprocAttr, hX]); (repeat (with_reducible refine And.intro ?_ ?_); exact vc0)
  (repeat (with_reducible refine And.intro ?_ ?_); exact vc0); refine hK _ ?_; clear hK K; refine Run.nq ?_
  refine Run.reKP hpin [0, 3, 15] [0, 1] rfl (by simp [oAt, gen0]) (by decide) (by simp) ?_; simp only [AR, AW7, simprocAttr]
  refine Run.nq ?_; refine Run.condW (by simp only [AW7, simprocAttr, hX]; rfl) (by simp only [AW7, simprocAttr, hX]) ?_ ?_
  rotate_left
  · intro _
    refine Run.nq ?_; refine Run.regionW hC (fun K hK => ?_); simp only [AW7, simprocAttr, hX]; (repeat (with_reducible refine And.intro ?_ ?_); exact vc0); refine hK _ ?_; clear hK K; refine Run.nq ?_
    refine Run.reKP hpin [0, 2] [0, 1] rfl (by simp [oAt, gen0]) (by decide) (by simp) ?_; simp only [AR, AW7, simprocAttr]
    refine Run.retW [2] (by decide) (by rw [hfn]; rfl) (by simp only [AW7, simprocAttr, hX]; rfl) (by simp only [AW7, simprocAttr, hX]) (hfin _ _ _ rfl rfl ⟨rfl, rfl⟩ ?_)
    exact ⟨rfl, hs, _, hsq, rfl⟩
  intro _
  refine Run.nq ?_; refine Run.regionW hC (fun K hK => ?_); simp only [AW7, simprocAttr, hX]; (repeat (with_reducible refine And.intro ?_ ?_); exact vc0)
  refine FunO.callCur hP hT (c_l1Below s (tcM nm).length (by omega) (by omega)) 0 0 (by first | rfl | (simp only [AW7, simprocAttr]; done) | (simp only [AW7, simprocAttr]; rfl)) (by simp only [AW7, simprocAttr]) ?_
  rintro rs o' obs' ⟨i, rfl, i0, i1, ho⟩
  injection ho with ho1 ho2; subst ho1 ho2
  have i1 := i1 (by omega)
  (try simp only [AW7, simprocAttr, hX]); (repeat (with_reducible refine And.intro ?_ ?_); exact vc0)
  (repeat (with_reducible refine And.intro ?_ ?_); exact vc0); refine hK _ ?_; clear hK K; refine Run.nq ?_
  refine Run.nq ?_; refine Run.regionW hC (fun K hK => ?_); simp only [AW7, simprocAttr, hX]; (repeat (with_reducible refine And.intro ?_ ?_); exact vc0)
  refine FunO.callCur hP hT (c_l1Below s (tcM nm).length (by omega) (by omega)) 0 0 (by first | rfl | (simp only [AW7, simprocAttr]; done) | (simp only [AW7, simprocAttr]; rfl)) (by simp only [AW7, simprocAttr]) ?_
  rintro rs o' obs' ⟨j, rfl, j0, j1, ho⟩
  injection ho with ho1 ho2; subst ho1 ho2
  have j1 := j1 (by omega)
  (try simp only [AW7, simprocAttr, hX]); (repeat (with_reducible refine And.intro ?_ ?_); exact vc0)
  (repeat (with_reducible refine And.intro ?_ ?_); exact vc0); refine hK _ ?_; clear hK K; refine Run.nq ?_
  refine Run.reKP hpin [0, 3, 5, 6] [0, 1] rfl (by simp [oAt, gen0]) (by decide) (by simp) ?_; simp only [AR, AW7, simprocAttr]
  refine Run.nq ?_; refine Run.regionW hC (fun K hK => ?_); simp only [AW7, simprocAttr, hX]; (repeat (with_reducible refine And.intro ?_ ?_); exact vc0); refine hK _ ?_; clear hK K; refine Run.nq ?_
  refine Run.nq ?_; refine Run.condW (by simp only [AW7, simprocAttr, hX]; rfl) (by simp only [AW7, simprocAttr, hX]) ?_ ?_
  rotate_left
  · intro _
    refine Run.nq ?_; refine Run.regionW hC (fun K hK => ?_); simp only [AW7, simprocAttr, hX]; (repeat (with_reducible refine And.intro ?_ ?_); exact vc0); refine hK _ ?_; clear hK K; refine Run.nq ?_
    refine Run.reKP hpin [0, 2] [0, 1] rfl (by simp [oAt, gen0]) (by decide) (by simp) ?_; simp only [AR, AW7, simprocAttr]
    refine Run.retW [2] (by decide) (by rw [hfn]; rfl) (by simp only [AW7, simprocAttr, hX]; rfl) (by simp only [AW7, simprocAttr, hX]) (hfin _ _ _ rfl rfl ⟨rfl, rfl⟩ ?_)
    exact ⟨rfl, hs, _, hsq, rfl⟩
  intro _
  obtain ⟨i, rfl⟩ : ∃ k : Nat, i = k := ⟨i.toNat, by omega⟩
  obtain ⟨j, rfl⟩ : ∃ k : Nat, j = k := ⟨j.toNat, by omega⟩
  refine Run.nq ?_; refine Run.regionW hC (fun K hK => ?_); simp only [AW7, simprocAttr, hX]; (repeat (with_reducible refine And.intro ?_ ?_); exact vc0)
  refine FunO.callCur hP hT (c_l1Below s 3 (by decide) (by decide)) 0 0 (by first | rfl | (simp only [AW7, simprocAttr]; done) | (simp only [AW7, simprocAttr]; rfl)) (by simp only [AW7, simprocAttr]) ?_
  rintro rs o' obs' ⟨p, rfl, p0, p1, ho⟩
  injection ho with ho1 ho2; subst ho1 ho2
  have p1 := p1 (by omega)
  simp (disch := omega) only [wrap_id, AW7, simprocAttr, hX]; (repeat (with_reducible refine And.intro ?_ ?_); exact vc0)
  refine FunO.callCur hP hT (c_l1Below s 3 (by decide) (by decide)) 0 0 (by first | rfl | (simp only [AW7, simprocAttr]; done) | (simp only [AW7, simprocAttr]; rfl)) (by simp only [AW7, simprocAttr]) ?_
  rintro rs o' obs' ⟨q, rfl, q0, q1, ho⟩
  injection ho with ho1 ho2; subst ho1 ho2
  have q1 := q1 (by omega)
  simp (disch := omega) only [wrap_id, AW7, simprocAttr, hX]; (repeat (with_reducible refine And.intro ?_ ?_); exact vc0)
  have hri := hsq.row (i := i) (by omega)
  have hrj := hsq.row (i := j) (by omega)
  refine FunA.callW hP hT (c_l2Set (tcM nm) i j (-1 - p) (-1 - q) (by omega) (fun r hr => by rw [hsq.2.2 r hr]; omega) (by omega) (by omega) (by omega) (by omega)) (by simp only [AW7, simprocAttr]) ?_
  rintro rs o ⟨rfl, hs2, rfl⟩
  (try simp only [AW7, simprocAttr, hX]); (repeat (with_reducible refine And.intro ?_ ?_); exact vc0)
  (repeat (with_reducible refine And.intro ?_ ?_); exact vc0); refine hK _ ?_; clear hK K; refine Run.nq ?_
  refine Run.reKP hpin [0, 2] [0, 2] rfl (by simp [oAt, gen0]) (by decide) (by simp) ?_; simp only [AR, AW7, simprocAttr]
  refine Run.retW [2] (by decide) (by rw [hfn]; rfl) (by simp only [AW7, simprocAttr, hX]; rfl) (by simp only [AW7, simprocAttr, hX]) (hfin _ _ _ rfl rfl ⟨rfl, rfl⟩ ?_)
  refine ⟨rfl, hs2, _, ?_, rfl⟩
  exact (hsq.set1 i j (-1 - p)).set1 j i (-1 - q)
theorem c_l2Drawn (s : Value) : FunO B 200 [.own 0 0] (.cur s 0) (fun rs o => rs = [.own 1 0] ∧ SqO s o) := by
  refine FunO.walk B_ok (fn := Tryz.f200) (fun vs w => Tryz.call200 vs w) Tryz.func200 rfl (by rw [Tryz.ntmps200]; simp) (fun C hC hP hT hΓ hbt hfn hpin hfin => ?_); have hX := BX; rw [← hΓ, ← hbt.1, ← hbt.2] at hX; rw [Tryz.ntmps200]; simp only [AW7, simprocAttr, hX]
  refine Run.nq ?_; refine Run.regionW hC (fun K hK => ?_); simp only [AW7, simprocAttr, hX]; (repeat (with_reducible refine And.intro ?_ ?_); exact vc0); refine hK _ ?_; clear hK K; refine Run.nq ?_
  refine Run.nq ?_; refine Run.regionW hC (fun K hK => ?_); simp only [AW7, simprocAttr, hX]; (repeat (with_reducible refine And.intro ?_ ?_); exact vc0)
  refine FunO.callCur hP hT (c_l1Once s 3 (by decide) (by decide)) 0 0 (by first | rfl | (simp only [AW7, simprocAttr]; done) | (simp only [AW7, simprocAttr]; rfl)) (by simp only [AW7, simprocAttr]) ?_
  rintro rs o' obs' ⟨x, rfl, ho⟩
  injection ho with ho1 ho2; subst ho1 ho2
  (try simp only [AW7, simprocAttr, hX]); (repeat (with_reducible refine And.intro ?_ ?_); exact vc0)
  (repeat (with_reducible refine And.intro ?_ ?_); exact vc0); refine hK _ ?_; clear hK K; refine Run.nq ?_
  refine Run.nq ?_; refine Run.condW (by simp only [AW7, simprocAttr, hX]; rfl) (by simp only [AW7, simprocAttr, hX]) ?_ ?_
  · intro _
    refine Run.nq ?_; refine Run.regionW hC (fun K hK => ?_); simp only [AW7, simprocAttr, hX]; (repeat (with_reducible refine And.intro ?_ ?_); exact vc0)
    refine FunO.callCur hP hT (c_l2Infinite s) 0 0 (by first | rfl | (simp only [AW7, simprocAttr]; done) | (simp only [AW7, simprocAttr]; rfl)) (by simp only [AW7, simprocAttr]) ?_
    rintro rs o' obs' ⟨rfl, hs, c, hsq, ho⟩
    injection ho with ho1 ho2; subst ho1 ho2
    (try simp only [AW7, simprocAttr, hX]); (repeat (with_reducible refine And.intro ?_ ?_); exact vc0)
    (repeat (with_reducible refine And.intro ?_ ?_); exact vc0); refine hK _ ?_; clear hK K; refine Run.nq ?_
    refine Run.retW [2] (by decide) (by rw [hfn]; rfl) (by simp only [AW7, simprocAttr, hX]; rfl) (by simp only [AW7, simprocAttr, hX]) (hfin _ _ _ rfl rfl ⟨rfl, rfl⟩ ?_)
    exact ⟨rfl, hs, c, hsq, rfl⟩
  intro _
  refine Run.nq ?_; refine Run.regionW hC (fun K hK => ?_); simp only [AW7, simprocAttr, hX]; (repeat (with_reducible refine And.intro ?_ ?_); exact vc0)
  refine FunO.callCur hP hT (c_l2Finite s) 0 0 (by first | rfl | (simp only [AW7, simprocAttr]; done) | (simp only [AW7, simprocAttr]; rfl)) (by simp only [AW7, simprocAttr]) ?_
  rintro rs o' obs' ⟨rfl, hs, c, hsq, ho⟩
  injection ho with ho1 ho2; subst ho1 ho2
  (try simp only [AW7, simprocAttr, hX]); (repeat (with_reducible refine And.intro ?_ ?_); exact vc0)
  (repeat (with_reducible refine And.intro ?_ ?_); exact vc0); refine hK _ ?_; clear hK K; refine Run.nq ?_
  refine Run.retW [2] (by decide) (by rw [hfn]; rfl) (by simp only [AW7, simprocAttr, hX]; rfl) (by simp only [AW7, simprocAttr, hX]) (hfin _ _ _ rfl rfl ⟨rfl, rfl⟩ ?_)
  exact ⟨rfl, hs, c, hsq, rfl⟩
end Go.Proofs.YtojcdgdbffmlpaaGreat
namespace Go.Proofs.YtojcdgdbffmlpaaGreat
open Go Go.Aw
theorem c_l5Word (s : Value) (c : List (List Int)) (m : Nat) (hc : c.length ≤ 100) (hm : m ≤ 100) : FunO B 135 [.own 0 0, .sl false (.row false) c, .int .i64 m] (.cur s 0) (fun rs o => ∃ w nn, (∀ k ∈ w, 0 ≤ k ∧ (0 < c.length → k < (c.length : Int))) ∧ w.length ≤ m ∧ nn = true ∧ rs = [.own 1 0] ∧ o = [.cur s 0, .arr .int w 0 nn]) := by
  refine FunO.walk B_ok (fn := Tryz.f135) (fun vs w => Tryz.call135 vs w) Tryz.func135 rfl (by rw [Tryz.ntmps135]; simp) (fun C hC hP hT hΓ hbt hfn hpin hfin => ?_); have hX := BX; rw [← hΓ, ← hbt.1, ← hbt.2] at hX; rw [Tryz.ntmps135]; simp only [AW7, simprocAttr, hX]
  refine Run.nq ?_; refine Run.regionW hC (fun K hK => ?_); simp only [AW7, simprocAttr, hX]; (repeat (with_reducible refine And.intro ?_ ?_); exact vc0); refine hK _ ?_; clear hK K; refine Run.nq ?_
  refine Run.nq ?_; refine Run.regionW hC (fun K hK => ?_); simp only [AW7, simprocAttr, hX]; (repeat (with_reducible refine And.intro ?_ ?_); exact vc0); refine hK _ ?_; clear hK K; refine Run.nq ?_
  refine Run.nq ?_; refine Run.regionW hC (fun K hK => ?_); simp (disch := omega) only [wrap_id, AW7, simprocAttr, hX]; (repeat (with_reducible refine And.intro ?_ ?_); exact vc0)
  refine FunO.callCur hP hT (c_l1Below s (m + 1) (by omega) (by omega)) 0 0 (by first | rfl | (simp only [AW7, simprocAttr]; done) | (simp only [AW7, simprocAttr]; rfl)) (by simp only [AW7, simprocAttr]) ?_
  rintro rs o' obs' ⟨x, rfl, x0, x1, ho⟩
  injection ho with ho1 ho2; subst ho1 ho2
  have x1 := x1 (by omega)
  (try simp only [AW7, simprocAttr, hX]); (repeat (with_reducible refine And.intro ?_ ?_); exact vc0)
  (repeat (with_reducible refine And.intro ?_ ?_); exact vc0); refine hK _ ?_; clear hK K; refine Run.nq ?_
  obtain ⟨x, rfl⟩ : ∃ k : Nat, x = k := ⟨x.toNat, by omega⟩
  refine Run.reKP hpin [0, 1, 7, 8] [0, 1] rfl (by simp [oAt, gen0]) (by decide) (by simp) ?_; simp only [AR, AW7, simprocAttr]
  refine Run.loopI (X := List Int × Nat) (fun y => ⟨27, [(0, true, .v (.own 0 0)), (1, true, .v (.sl false (.row false) (c))), (7, true, .v (.own 1 0)), (8, true, .v (.int .i64 (y.2)))], [.cur s 0, .arr .int (y.1) 0 true]⟩) (fun y => y.1.length + y.2 ≤ m ∧ (∀ k ∈ y.1, 0 ≤ k ∧ (0 < c.length → k < (c.length : Int)))) (fun y => y.2) (([], x)) (⟨by simp; omega, by simp⟩) ?_ ?_
  · exact Le.sub (by first | rfl | simp) (by simp only [AW7, simprocAttr, hX]; try simp <;> try (first | rfl | exact ⟨rfl, rfl⟩ | exact ⟨rfl, rfl, rfl⟩))
  rintro ⟨w, n⟩ ⟨hwl, hw⟩ ih
  try simp only []
  simp only [] at hwl hw
  refine Run.nq ?_; refine Run.regionW hC (fun K hK => ?_); simp only [AW7, simprocAttr, hX]; (repeat (with_reducible refine And.intro ?_ ?_); exact vc0); refine hK _ ?_; clear hK K; refine Run.nq ?_
  refine Run.nq ?_; refine Run.condW (by simp only [AW7, simprocAttr, hX]; rfl) (by simp only [AW7, simprocAttr, hX]) ?_ ?_
  rotate_left
  · intro _
    refine Run.exit rfl ?_; refine Run.nq ?_
    refine Run.nq ?_; refine Run.regionW hC (fun K hK => ?_); simp only [AW7, simprocAttr, hX]; (repeat (with_reducible refine And.intro ?_ ?_); exact vc0); refine hK _ ?_; clear hK K; refine Run.nq ?_
    refine Run.reKP hpin [0, 6] [0, 1] rfl (by simp [oAt, gen0]) (by decide) (by simp) ?_; simp only [AR, AW7, simprocAttr]
    refine Run.retW [6] (by decide) (by rw [hfn]; rfl) (by simp only [AW7, simprocAttr, hX]; rfl) (by simp only [AW7, simprocAttr, hX]) (hfin _ _ _ rfl rfl ⟨rfl, rfl⟩ ?_)
    exact ⟨w, true, hw, by omega, rfl, rfl, rfl⟩
  intro h
  have h : 0 < n := by rw [decide_eq_true_eq] at h; omega
  refine Run.nq ?_; refine Run.regionW hC (fun K hK => ?_); simp only [AW7, simprocAttr, hX]; (repeat (with_reducible refine And.intro ?_ ?_); exact vc0)
  have hb : -1000 ≤ (if (c.length : Int) > 1 then (c.length : Int) else 1) ∧ (if (c.length : Int) > 1 then (c.length : Int) else 1) ≤ 256 := by split <;> omega
  have hb2 : 0 < c.length → (if (c.length : Int) > 1 then (c.length : Int) else 1) ≤ c.length := by intro h; split <;> omega
  have hb3 : 0 < (if (c.length : Int) > 1 then (c.length : Int) else 1) := by split <;> omega
  refine FunO.callCur hP hT (c_l1Below s _ hb.1 hb.2) 0 0 (by first | rfl | (simp only [AW7, simprocAttr]; done) | (simp only [AW7, simprocAttr]; rfl)) (by simp only [AW7, simprocAttr]) ?_
  rintro rs o' obs' ⟨v, rfl, v0, v1, ho⟩
  injection ho with ho1 ho2; subst ho1 ho2
  have v1 := v1 hb3
  generalize (if (c.length : Int) > 1 then (c.length : Int) else 1) = z at *
  (try simp only [AW7, simprocAttr, hX]); (repeat (with_reducible refine And.intro ?_ ?_); exact vc0)
  (repeat (with_reducible refine And.intro ?_ ?_); exact vc0); refine hK _ ?_; clear hK K; refine Run.nq ?_
  have e : (n : Int) - 1 = ((n - 1 : Nat) : Int) := by omega
  have hw2 : ∀ k ∈ w ++ [v], 0 ≤ k ∧ (0 < c.length → k < (c.length : Int)) := by
    intro k hk
    rw [List.mem_append, List.mem_singleton] at hk
    rcases hk with hk | rfl
    · exact hw k hk
    · exact ⟨v0, fun h => by have := hb2 h; omega⟩
  refine Run.reKP hpin [0, 1, 7, 8] [0, 1] rfl (by simp [oAt, gen0]) (by decide) (by simp) ?_; simp only [AR, AW7, simprocAttr]
  refine Run.nq ?_; refine Run.regionW hC (fun K hK => ?_); simp (disch := omega) only [wrap_id, AW7, simprocAttr, hX]; (repeat (with_reducible refine And.intro ?_ ?_); exact vc0); refine hK _ ?_; clear hK K; refine Run.nq ?_
  rw [e]
  refine Run.le ?_ (ih ((w ++ [v], n - 1)) (⟨by simp; omega, hw2⟩) (by (try simp only [List.length_append, List.length_cons, List.length_nil]); omega))
  exact Le.sub (by rfl) (by simp only [AW7, simprocAttr]; try simp)
end Go.Proofs.YtojcdgdbffmlpaaGreat
namespace Go.Proofs.YtojcdgdbffmlpaaGreat
open Go Go.Aw
theorem c_l2Any (s : Value) : FunO B 161 [.own 0 0] (.cur s 0) (fun rs o => ∃ c g nn, (1 ≤ c.length ∧ c.length ≤ 5) ∧ nn = true ∧ rs = [.own 1 g] ∧ o = [.cur s 0, .arr (.row true) c g nn]) := by
  refine FunO.walk B_ok (fn := Tryz.f161) (fun vs w => Tryz.call161 vs w) Tryz.func161 rfl (by rw [Tryz.ntmps161]; simp) (fun C hC hP hT hΓ hbt hfn hpin hfin => ?_); have hX := BX; rw [← hΓ, ← hbt.1, ← hbt.2] at hX; rw [Tryz.ntmps161]; simp only [AW7, simprocAttr, hX]
  refine Run.nq ?_; refine Run.regionW hC (fun K hK => ?_); simp only [AW7, simprocAttr, hX]; (repeat (with_reducible refine And.intro ?_ ?_); exact vc0); refine hK _ ?_; clear hK K; refine Run.nq ?_
  refine Run.nq ?_; refine Run.regionW hC (fun K hK => ?_); simp only [AW7, simprocAttr, hX]; (repeat (with_reducible refine And.intro ?_ ?_); exact vc0)
  refine FunO.callCur hP hT (c_l2Drawn s) 0 0 (by first | rfl | (simp only [AW7, simprocAttr]; done) | (simp only [AW7, simprocAttr]; rfl)) (by simp only [AW7, simprocAttr]) ?_
  rintro rs o' obs' ⟨rfl, hs, c, hsq, ho⟩
  injection ho with ho1 ho2; subst ho1 ho2
  have hl := hsq.1
  have hl4 := hsq.2.1
  (try simp only [AW7, simprocAttr, hX]); (repeat (with_reducible refine And.intro ?_ ?_); exact vc0)
  (repeat (with_reducible refine And.intro ?_ ?_); exact vc0); refine hK _ ?_; clear hK K; refine Run.nq ?_
  refine Run.nq ?_; refine Run.regionW hC (fun K hK => ?_); simp only [AW7, simprocAttr, hX]; (repeat (with_reducible refine And.intro ?_ ?_); exact vc0)
  refine FunO.callCur hP hT (c_l1Once s 12 (by decide) (by decide)) 0 0 (by first | rfl | (simp only [AW7, simprocAttr]; done) | (simp only [AW7, simprocAttr]; rfl)) (by simp only [AW7, simprocAttr]) ?_
  rintro rs o' obs' ⟨x, rfl, ho⟩
  injection ho with ho1 ho2; subst ho1 ho2
  (try simp only [AW7, simprocAttr, hX]); (repeat (with_reducible refine And.intro ?_ ?_); exact vc0)
  (repeat (with_reducible refine And.intro ?_ ?_); exact vc0); refine hK _ ?_; clear hK K; refine Run.nq ?_
  refine Run.reKP hpin [0, 3, 8] [0, 1] rfl (by simp [oAt, gen0]) (by decide) (by simp) ?_; simp only [AR, AW7, simprocAttr]
  refine Run.nq ?_; refine Run.condW (by simp only [AW7, simprocAttr, hX]; rfl) (by simp only [AW7, simprocAttr, hX]) ?_ ?_
  rotate_left
  · intro _
    refine Run.nq ?_; refine Run.regionW hC (fun K hK => ?_); simp only [AW7, simprocAttr, hX]; (repeat (with_reducible refine And.intro ?_ ?_); exact vc0); refine hK _ ?_; clear hK K; refine Run.nq ?_
    refine Run.reKP hpin [0, 2] [0, 1] rfl (by simp [oAt, gen0]) (by decide) (by simp) ?_; simp only [AR, AW7, simprocAttr]
    refine Run.unmat hC 1 rfl ?_
    simp only [AW7, simprocAttr]
    refine Run.retW [2] (by decide) (by rw [hfn]; rfl) (by simp only [AW7, simprocAttr, hX]; rfl) (by simp only [AW7, simprocAttr, hX]) (hfin _ _ _ rfl rfl ⟨rfl, rfl⟩ ?_)
    exact ⟨c, 0, true, ⟨by omega, by omega⟩, rfl, rfl, rfl⟩
  intro _
  refine Run.nq ?_; refine Run.regionW hC (fun K hK => ?_); simp only [AW7, simprocAttr, hX]; (repeat (with_reducible refine And.intro ?_ ?_); exact vc0)
  refine FunO.callCur hP hT (c_l1Below s c.length (by omega) (by omega)) 0 0 (by first | rfl | (simp only [AW7, simprocAttr]; done) | (simp only [AW7, simprocAttr]; rfl)) (by simp only [AW7, simprocAttr]) ?_
  rintro rs o' obs' ⟨i, rfl, i0, i1, ho⟩
  injection ho with ho1 ho2; subst ho1 ho2
  have i1 := i1 (by omega)
  obtain ⟨i, rfl⟩ : ∃ k : Nat, i = k := ⟨i.toNat, by omega⟩
  have hrow := hsq.row (i := i) (by omega)
  (try simp only [AW7, simprocAttr, hX]); (repeat (with_reducible refine And.intro ?_ ?_); exact vc0)
  (repeat (with_reducible refine And.intro ?_ ?_); exact vc0); refine hK _ ?_; clear hK K; refine Run.nq ?_
  refine Run.reKP hpin [0, 3, 4] [0, 1] rfl (by simp [oAt, gen0]) (by decide) (by simp) ?_; simp only [AR, AW7, simprocAttr]
  refine Run.matfact 1 rfl fun hl0 hd hz => ?_
  obtain ⟨q1, e1, m1, x1⟩ := mat_head hl0 hd hz (i := i) (by omega) (by omega)
  have hq : c.length = (c.getD (hs.idxOf (some q1)) []).length := by rw [x1]; exact hrow.symm
  refine Run.nq ?_; refine Run.regionW hC (fun K hK => ?_); simp only [AW7, simprocAttr, hX]; (repeat (with_reducible refine And.intro ?_ ?_); exact vc0)
  rw [e1, hrow, Q_src_cur m1 hq, x1]
  simp only [AW7, simprocAttr, hX]
  refine ⟨by simp only [List.length_nil]; omega, ⟨by omega, by omega⟩, fun h0 => ?_⟩
  (repeat (with_reducible refine And.intro ?_ ?_); exact vc0); refine hK _ ?_; clear hK K; refine Run.nq ?_
  have hcc : c.set i (c.getD i []) = c := by
    have hi : i < c.length := by omega
    apply List.ext_getElem?
    intro j
    by_cases hj : i = j
    · subst hj; rw [List.getElem?_set_self hi, List.getD_eq_getElem?_getD, List.getElem?_eq_getElem hi]; rfl
    · rw [List.getElem?_set_ne hj]
  rw [hcc]
  generalize hs.set i (some h0) = hs2 at *
  refine Run.reKP hpin [0, 3, 4] [0, 1] rfl (by simp [oAt, gen0]) (by decide) (by simp) ?_; simp only [AR, AW7, simprocAttr]
  refine Run.nq ?_; refine Run.regionW hC (fun K hK => ?_); simp only [AW7, simprocAttr, hX]; (repeat (with_reducible refine And.intro ?_ ?_); exact vc0)
  refine FunO.callCur hP hT (c_l1Below s 3 (by decide) (by decide)) 0 0 (by first | rfl | (simp only [AW7, simprocAttr]; done) | (simp only [AW7, simprocAttr]; rfl)) (by simp only [AW7, simprocAttr]) ?_
  rintro rs o' obs' ⟨z, rfl, z0, z1, ho⟩
  injection ho with ho1 ho2; subst ho1 ho2
  (try simp only [AW7, simprocAttr, hX]); (repeat (with_reducible refine And.intro ?_ ?_); exact vc0)
  (repeat (with_reducible refine And.intro ?_ ?_); exact vc0); refine hK _ ?_; clear hK K; refine Run.nq ?_
  refine Run.reKP hpin [0, 3, 4, 23] [0, 1] rfl (by simp [oAt, gen0]) (by decide) (by simp) ?_; simp only [AR, AW7, simprocAttr]
  refine Run.nq ?_; refine Run.regionW hC (fun K hK => ?_); simp only [AW7, simprocAttr, hX]; (repeat (with_reducible refine And.intro ?_ ?_); exact vc0); refine hK _ ?_; clear hK K; refine Run.nq ?_
  refine Run.nq ?_; refine Run.condW (by simp only [AW7, simprocAttr, hX]; rfl) (by simp only [AW7, simprocAttr, hX]) ?_ ?_
  · intro _
    refine Run.matfact 1 rfl fun hl0 hd hz => ?_
    obtain ⟨q2, e2, m2, x2⟩ := mat_head hl0 hd hz (i := i) (by omega) (by omega)
    have hq2 : 0 < (c.getD (hs2.idxOf (some q2)) []).length := by rw [x2]; omega
    refine Run.nq ?_; refine Run.regionD hC true [0,1,2,3,4,5,6,7,8] (by kernel_rfl) (fun K hK => ?_); simp only [AW7, simprocAttr, hX]; (repeat (with_reducible refine And.intro ?_ ?_); exact vc0)
    refine FunO.callCurD hP hT (c_l1PickInt s [-4, 1, 0, 2] (by decide) (by decide)) 0 0 (by first | rfl | (simp only [AW7, simprocAttr]; done) | (simp only [AW7, simprocAttr]; rfl)) (fun _ _ ⟨_, _, _, h⟩ => h) (by simp only [AW7, simprocAttr]; first | done | decide | exact ⟨by decide, rfl⟩) ?_
    rintro rs ⟨v, rfl, hv, _⟩
    rw [e2]
    simp only [AW7, simprocAttr, hX]
    refine ⟨by omega, ⟨m2, hq2⟩, ?_⟩
    refine hK _ ?_; clear hK K; refine Run.nq ?_
    refine Run.nq ?_; refine Run.regionW hC (fun K hK => ?_); simp only [AW7, simprocAttr, hX]; (repeat (with_reducible refine And.intro ?_ ?_); exact vc0); refine hK _ ?_; clear hK K; refine Run.nq ?_
    refine Run.reKP hpin [0, 2] [0, 1] rfl (by simp [oAt, gen0]) (by decide) (by simp) ?_; simp only [AR, AW7, simprocAttr]
    refine Run.unmat hC 1 rfl ?_
    simp only [AW7, simprocAttr]
    refine Run.retW [2] (by decide) (by rw [hfn]; rfl) (by simp only [AW7, simprocAttr, hX]; rfl) (by simp only [AW7, simprocAttr, hX]) (hfin _ _ _ rfl rfl ⟨rfl, rfl⟩ ?_)
    refine ⟨_, 0, true, ⟨?_, ?_⟩, rfl, rfl, rfl⟩ <;> simp only [setM, List.length_set] <;> omega
  intro _
  refine Run.nq ?_; refine Run.regionW hC (fun K hK => ?_); simp only [AW7, simprocAttr, hX]; (repeat (with_reducible refine And.intro ?_ ?_); exact vc0); refine hK _ ?_; clear hK K; refine Run.nq ?_
  refine Run.nq ?_; refine Run.condW (by simp only [AW7, simprocAttr, hX]; rfl) (by simp only [AW7, simprocAttr, hX]) ?_ ?_
  · intro _
    refine Run.unmat hC 1 rfl ?_
    simp only [AW7, simprocAttr]
    refine Run.nq ?_; refine Run.regionW hC (fun K hK => ?_); simp only [AW7, simprocAttr, hX]; (repeat (with_reducible refine And.intro ?_ ?_); exact vc0); refine hK _ ?_; clear hK K; refine Run.nq ?_
    refine Run.nq ?_; refine Run.regionW hC (fun K hK => ?_); simp only [AW7, simprocAttr, hX]; (repeat (with_reducible refine And.intro ?_ ?_); exact vc0); refine hK _ ?_; clear hK K; refine Run.nq ?_
    refine Run.reKP hpin [0, 2] [0, 1] rfl (by simp [oAt, gen0]) (by decide) (by simp) ?_; simp only [AR, AW7, simprocAttr]
    refine Run.retW [2] (by decide) (by rw [hfn]; rfl) (by simp only [AW7, simprocAttr, hX]; rfl) (by simp only [AW7, simprocAttr, hX]) (hfin _ _ _ rfl rfl ⟨rfl, rfl⟩ ?_)
    refine ⟨_, 0, true, ⟨?_, ?_⟩, rfl, rfl, rfl⟩ <;> simp <;> omega
  intro _
  refine Run.nq ?_; refine Run.regionW hC (fun K hK => ?_); simp only [AW7, simprocAttr, hX]; (repeat (with_reducible refine And.intro ?_ ?_); exact vc0); refine hK _ ?_; clear hK K; refine Run.nq ?_
  refine Run.nq ?_; refine Run.condW (by simp only [AW7, simprocAttr, hX]; rfl) (by simp only [AW7, simprocAttr, hX]) ?_ ?_
  · intro _
    refine Run.unmat hC 1 rfl ?_
    simp only [AW7, simprocAttr]
    refine Run.nq ?_; refine Run.regionW hC (fun K hK => ?_); simp only [AW7, simprocAttr, hX]; (repeat (with_reducible refine And.intro ?_ ?_); exact vc0)
    refine fun l hl => ⟨by simp only [List.map_cons, List.map_nil, List.length_cons, List.length_nil]; omega, ?_⟩
    (repeat (with_reducible refine And.intro ?_ ?_); exact vc0); refine hK _ ?_; clear hK K; refine Run.nq ?_
    refine Run.nq ?_; refine Run.regionW hC (fun K hK => ?_); simp only [AW7, simprocAttr, hX]; (repeat (with_reducible refine And.intro ?_ ?_); exact vc0); refine hK _ ?_; clear hK K; refine Run.nq ?_
    refine Run.reKP hpin [0, 2] [0, 1] rfl (by simp [oAt, gen0]) (by decide) (by simp) ?_; simp only [AR, AW7, simprocAttr]
    refine Run.retW [2] (by decide) (by rw [hfn]; rfl) (by simp only [AW7, simprocAttr, hX]; rfl) (by simp only [AW7, simprocAttr, hX]) (hfin _ _ _ rfl rfl ⟨rfl, rfl⟩ ?_)
    refine ⟨_, 0, true, ⟨?_, ?_⟩, rfl, rfl, rfl⟩ <;> simp <;> omega
  intro _
  refine Run.nq ?_; refine Run.regionW hC (fun K hK => ?_); simp only [AW7, simprocAttr, hX]; (repeat (with_reducible refine And.intro ?_ ?_); exact vc0); refine hK _ ?_; clear hK K; refine Run.nq ?_
  refine Run.reKP hpin [0, 2] [0, 1] rfl (by simp [oAt, gen0]) (by decide) (by simp) ?_; simp only [AR, AW7, simprocAttr]
  refine Run.unmat hC 1 rfl ?_
  simp only [AW7, simprocAttr]
  refine Run.retW [2] (by decide) (by rw [hfn]; rfl) (by simp only [AW7, simprocAttr, hX]; rfl) (by simp only [AW7, simprocAttr, hX]) (hfin _ _ _ rfl rfl ⟨rfl, rfl⟩ ?_)
  exact ⟨c, 0, true, ⟨by omega, by omega⟩, rfl, rfl, rfl⟩
end Go.Proofs.YtojcdgdbffmlpaaGreat

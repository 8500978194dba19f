/- The orders in which one matrix is another one: the program's side. -/
import Derived.Test.YtaghdbbcadhjdaaGreatDoorB12
import Derived.Test.YtaghdbbcadhjdaaGreatDoorB16
import Derived.Test.YtaghdbbcadhjdaaGreatDoorB10
import Derived.Test.YtaghdbbcadhjdaaGreatDoorB11
import Derived.Test.YtaghdbbcadhjdaaGreatDoorB9
set_option linter.unusedVariables false
set_option linter.unusedSimpArgs false
namespace Go.Proofs.YtaghdbbcadhjdaaGreatDoor
open Go Go.Aw
def fitK (a b : List (List Int)) (order : List Int) (i j : Nat) : Bool := (order.take j).zipIdx.all fun p => decide (ent a i p.1.toNat = ent b order.length p.2) && decide (ent a p.1.toNat i = ent b p.2 order.length)
theorem fitK_all (a b : List (List Int)) (order : List Int) (i : Nat) : fitK a b order i order.length = fitM a b order i := by
  unfold fitK fitM; rw [List.take_length]
theorem fitK_step (a b : List (List Int)) (order : List Int) (i j : Nat) (h : j < order.length) : fitK a b order i (j + 1) = (fitK a b order i j && (decide (ent a i (order.getD j 0).toNat = ent b order.length j) && decide (ent a (order.getD j 0).toNat i = ent b j order.length))) := by
  unfold fitK
  rw [← take_snoc 0 order j h, List.zipIdx_append, List.all_append]
  simp only [List.zipIdx_cons, List.zipIdx_nil, List.all_cons, List.all_nil, Bool.and_true, List.length_take, Nat.zero_add]
  rw [show min j order.length = j by omega]
theorem bif_and (x y z : Bool) : (bif (bif x then y else false) then z else false) = (x && (y && z)) := by cases x <;> cases y <;> cases z <;> rfl
theorem range_drop (n i : Nat) (h : i < n) : (List.range n).drop i = i :: (List.range n).drop (i + 1) := by
  rw [List.drop_eq_getElem_cons (by simpa using h)]; simp
theorem mtL_one (a b : List (List Int)) (rec : List Int → Int → List (List Int)) (order : List Int) (hrec : ∀ o, (rec o 1).length ≤ 1) : ∀ l : List Nat, (mtL a b rec order 1 l []).length ≤ 1
  | [] => by simp [mtL]
  | i :: r => by
    simp only [mtL]
    cases decide ((i : Int) ∈ order)
    · rw [cond_false]
      cases fitM a b order i
      · simp only [cond_false, List.append_nil, List.length_nil]
        exact mtL_one a b rec order hrec r
      · simp only [cond_true, List.nil_append, List.length_nil]
        have := hrec (order ++ [(i : Int)])
        by_cases h : (1 : Int) ≤ ((rec (order ++ [(i : Int)]) (1 - (0 : Nat))).length : Int)
        · rw [decide_eq_true h, cond_true]
          exact this
        · rw [decide_eq_false h, cond_false]
          have e : rec (order ++ [(i : Int)]) (1 - (0 : Nat)) = [] := List.eq_nil_of_length_eq_zero (by omega)
          rw [e]
          exact mtL_one a b rec order hrec r
    · rw [cond_true]
      exact mtL_one a b rec order hrec r
theorem mtI_one (a b : List (List Int)) : ∀ (f : Nat) (o : List Int), (mtI a b f o 1).length ≤ 1
  | 0, o => by simp [mtI]
  | f + 1, o => mtL_one a b (mtI a b f) o (mtI_one a b f) _
theorem mtL_skip (a b : List (List Int)) (rec : List Int → Int → List (List Int)) (order : List Int) (i : Nat) (r : List Nat) (h : (i : Int) ∈ order) : mtL a b rec order 1 (i :: r) [] = mtL a b rec order 1 r [] := by
  simp only [mtL]; rw [decide_eq_true h, cond_true]
theorem mtL_nofit (a b : List (List Int)) (rec : List Int → Int → List (List Int)) (order : List Int) (i : Nat) (r : List Nat) (h : ¬ (i : Int) ∈ order) (hf : fitM a b order i = false) : mtL a b rec order 1 (i :: r) [] = mtL a b rec order 1 r [] := by
  simp only [mtL]; rw [decide_eq_false h, cond_false, hf]; rfl
theorem mtL_fit (a b : List (List Int)) (rec : List Int → Int → List (List Int)) (order : List Int) (i : Nat) (r : List Nat) (h : ¬ (i : Int) ∈ order) (hf : fitM a b order i = true) : mtL a b rec order 1 (i :: r) [] = if 1 ≤ (rec (order ++ [(i : Int)]) 1).length then rec (order ++ [(i : Int)]) 1 else mtL a b rec order 1 r [] := by
  simp only [mtL]; rw [decide_eq_false h, cond_false, hf]
  simp only [cond_true, List.nil_append, List.length_nil]
  have e0 : ((1 : Int) - ((0 : Nat) : Int)) = 1 := rfl
  simp only [e0]
  by_cases h1 : 1 ≤ (rec (order ++ [(i : Int)]) 1).length
  · rw [if_pos h1, decide_eq_true (by omega), cond_true]
  · rw [if_neg h1, decide_eq_false (by omega), cond_false]
    have e : rec (order ++ [(i : Int)]) 1 = [] := List.eq_nil_of_length_eq_zero (by omega)
    rw [e]
theorem c_CloneN (w : List Int) (hl : w.length ≤ 1048576) (hne : w ≠ []) : FunA B 193 [.sl false .int w] (fun rs o => rs = [.own 0 0] ∧ o = [.arr .int w 0 true]) := by
  refine FunA.walk B_ok (fn := Tryz.f193) (fun vs w => Tryz.call193 vs w) Tryz.func193 rfl (by rw [Tryz.ntmps193]; simp) (fun C hC hP hT hΓ hbt hfn hpin hfin => ?_); have hX := BX; rw [← hΓ, ← hbt.1, ← hbt.2.1, ← hbt.2.2.1] at hX; rw [hT] at hX; rw [Tryz.ntmps193]; simp only [AW7, simprocAttr, hX]
  refine Run.R ?_
  cases w with
  | nil => exact absurd rfl hne
  | cons x w =>
    refine Run.R ?_
    refine Run.nq ?_; refine Run.cW ?_ ?_
    · intro h
      simp at h
    · intro h
      refine Run.R ?_
      refine Run.le (Le.re (obs' := [.arr .int (x :: w) 0 true]) hpin [0] [(2, true, .own 0 0)] rfl (by simp [leOs, leO_arr, oAt]) (by refine ⟨⟨_, rfl, ?_⟩, trivial⟩; simp [leAV, oAt, genO])) ?_
      simp only [frV_cons, frV_nil]
      refine Run.rW [2] (hfin _ _ rfl rfl ?_)
      exact ⟨rfl, rfl⟩
set_option maxHeartbeats 1000000 in
theorem c_impl_matches (a b : List (List Int)) (ha : CartanP a) (hb : CartanP b) (hab : a.length = b.length) : ∀ (f : Nat) (order : List Int), letters a.length order → order.length + f = b.length →
    FunA B 181 [.sl false (.row false) a, .sl false (.row false) b, .sl false .int order, .int .i64 1] (fun rs o => rs = [.own 0 0] ∧ ∃ ys, rw2 ys = mtI a b f order 1 ∧ o = [.arr .lrow ys 0 true]) := by
  have hn := ha.2.1
  intro f
  induction f with
  | zero =>
    intro order hlet hlen
    refine FunA.walk B_ok (fn := Tryz.f181) (fun vs w => Tryz.call181 vs w) Tryz.func181 rfl (by rw [Tryz.ntmps181]; simp) (fun C hC hP hT hΓ hbt hfn hpin hfin => ?_); have hX := BX; rw [← hΓ, ← hbt.1, ← hbt.2.1, ← hbt.2.2.1] at hX; rw [hT] at hX; rw [Tryz.ntmps181]; simp only [AW7, simprocAttr, hX]
    refine Run.R ?_
    refine Run.R ?_
    refine Run.R ?_
    refine Run.nq ?_; refine Run.cW ?_ ?_
    rotate_left
    · intro h; exfalso; rw [show order.length = b.length by omega] at h; simp at h
    intro _
    refine Run.nq ?_; refine Run.regionW hC (fun K hK => ?_); refine wW ?_
    refine FunA.cW hP hT (c_CloneN order (by omega) (fun e => by rw [e] at hlen; have := hb.1; simp at hlen; omega)) ?_
    rintro rs o ⟨rfl, rfl⟩
    refine wW ?_
    intro l hl
    refine wW ?_
    refine wE ?_; clear hK K
    refine Run.reK hpin [8] [1] (by decide) (by simp) ?_; simp only [AR, AW7, simprocAttr]
    refine Run.rW [8] (hfin _ _ rfl rfl ?_)
    exact ⟨rfl, [(l, order)], rfl, rfl⟩
  | succ f ihf =>
    intro order hlet hlen
    refine FunA.walk B_ok (fn := Tryz.f181) (fun vs w => Tryz.call181 vs w) Tryz.func181 rfl (by rw [Tryz.ntmps181]; simp) (fun C hC hP hT hΓ hbt hfn hpin hfin => ?_); have hX := BX; rw [← hΓ, ← hbt.1, ← hbt.2.1, ← hbt.2.2.1] at hX; rw [hT] at hX; rw [Tryz.ntmps181]; simp only [AW7, simprocAttr, hX]
    refine Run.R ?_
    refine Run.R ?_
    refine Run.R ?_
    refine Run.nq ?_; refine Run.cW ?_ ?_
    · intro h; exfalso; have h : (order.length : Int) = b.length := by simpa using h
      omega
    intro _
    refine Run.R ?_
    refine Run.R ?_
    refine Run.reK hpin [0, 1, 2, 3, 8, 9, 10, 26, 27] [0] (by decide) (by simp) ?_; simp only [AR, AW7, simprocAttr]
    refine Run.loopI (X := Nat) (fun i => ⟨97, [(0, true, .v (.sl false (.row false) (a))), (1, true, .v (.sl false (.row false) (b))), (2, true, .v (.sl false .int (order))), (3, true, .v (.int .i64 (1))), (8, true, .v (.nils)), (9, true, .v (.int .i64 ((order.length : Nat)))), (10, true, .v (.own 0 0)), (26, true, .v (.int .i64 ((a.length : Nat)))), (27, true, .v (.int .i64 (i)))], [.arr .lrow ([]) 0 true]⟩) (fun i => i ≤ a.length ∧ mtL a b (mtI a b f) order 1 ((List.range a.length).drop i) [] = mtI a b (f + 1) order 1) (fun i => a.length - i) (0) (⟨Nat.zero_le _, rfl⟩) ?_ ?_
    · exact Le.sub (by first | rfl | simp) (by simp only [AW7, simprocAttr, hX]; try simp <;> try (first | rfl | exact ⟨rfl, rfl⟩ | exact ⟨rfl, rfl, rfl⟩))
    rintro i ⟨hi, hE⟩ ih
    try simp only []
    refine Run.R ?_
    refine Run.nq ?_; refine Run.cW ?_ ?_
    rotate_left
    · intro h
      have h : i = a.length := by rw [decide_eq_false_iff_not] at h; omega
      subst h
      rw [List.drop_eq_nil_of_le (by simp)] at hE
      refine Run.exit rfl ?_; refine Run.nq ?_
      refine Run.R ?_
      refine Run.reK hpin [8] [0] (by decide) (by simp) ?_; simp only [AR, AW7, simprocAttr]
      refine Run.rW [8] (hfin _ _ rfl rfl ?_)
      exact ⟨rfl, [], by rw [← hE]; rfl, rfl⟩
    intro h
    have h : i < a.length := by rw [decide_eq_true_eq] at h; omega
    rw [range_drop a.length i h] at hE
    refine Run.R ?_
    refine Run.nq ?_; refine Run.regionW hC (fun K hK => ?_); refine wW ?_
    refine FunA.cW hP hT (c_slices_Contains order (i : Int) (by omega)) ?_
    rintro rs o ⟨rfl, rfl⟩
    refine wW ?_
    refine wE ?_; clear hK K
    refine Run.nq ?_; refine Run.cW ?_ ?_
    · intro h2
      have h2 : (i : Int) ∈ order := by simpa using h2
      rw [mtL_skip _ _ _ _ _ _ h2] at hE
      refine Run.exit rfl ?_; refine Run.nq ?_
      refine Run.RW ?_
      refine Run.reK hpin [0, 1, 2, 3, 8, 9, 10, 26, 27] [0] (by decide) (by simp) ?_; simp only [AR, AW7, simprocAttr]
      refine Run.le ?_ (ih (i + 1) (⟨h, hE⟩) (by (try simp only [List.length_append, List.length_cons, List.length_nil]); omega))
      exact Le.sub (by rfl) (by simp only [AW7, simprocAttr]; try simp)
    intro h2
    have h2 : ¬ (i : Int) ∈ order := by simpa using h2
    refine Run.R ?_
    refine Run.R ?_
    refine Run.reK hpin [0, 1, 2, 3, 8, 9, 10, 11, 12, 26, 27, 33, 34, 35] [0] (by decide) (by simp) ?_; simp only [AR, AW7, simprocAttr]
    refine Run.loopI (X := Nat) (fun j => ⟨97, [(0, true, .v (.sl false (.row false) (a))), (1, true, .v (.sl false (.row false) (b))), (2, true, .v (.sl false .int (order))), (3, true, .v (.int .i64 (1))), (8, true, .v (.nils)), (9, true, .v (.int .i64 ((order.length : Nat)))), (10, true, .v (.own 0 0)), (11, true, .v (.int .i64 (i))), (12, true, .v (.bool ((fitK a b order i j)))), (26, true, .v (.int .i64 ((a.length : Nat)))), (27, true, .v (.int .i64 (i))), (33, true, .v (.sl false .int (order))), (34, true, .v (.int .i64 ((order.length : Nat)))), (35, true, .v (.int .i64 (j)))], [.arr .lrow ([]) 0 true]⟩) (fun j => j ≤ order.length) (fun j => order.length - j) (0) (Nat.zero_le _) ?_ ?_
    · exact Le.sub (by first | rfl | simp) (by simp only [AW7, simprocAttr, hX]; try simp <;> try (first | rfl | exact ⟨rfl, rfl⟩ | exact ⟨rfl, rfl, rfl⟩))
    rintro j hj ihK
    try simp only []
    refine Run.R ?_
    refine Run.nq ?_; refine Run.cW ?_ ?_
    · intro h3
      have h3 : j < order.length := by rw [decide_eq_true_eq] at h3; omega
      have hst := fitK_step a b order i j h3
      obtain ⟨p1, p2⟩ := letters_mem hlet h3
      have r1 := ha.2.2.1 i h
      have r2 := ha.2.2.1 (order.getD j 0).toNat (by omega)
      have r3 := hb.2.2.1 order.length (by omega)
      have r4 := hb.2.2.1 j (by omega)
      have eq1 : ∀ x y : Int, (x == y) = decide (x = y) := fun x y => by rw [Bool.eq_iff_iff]; simp
      refine Run.R ?_
      refine Run.nq ?_; refine Run.regionD hC true [0,1,2,3,4,5,6,7,8,9,10,11,12,13,14,15,16,17,18,19,20,21,22,23,24,25,26,27,28,29,30,31,32,33,34,35] (by kernel_rfl) (fun K hK => ?_); simp only [AW7, simprocAttr, hX]; (repeat (with_reducible refine And.intro ?_ ?_); exact vc0)
      refine wE ?_; clear hK K
      have hfe : (bif (bif fitK a b order i j then (a.getD i []).getD (order.getD j 0).toNat 0 == (b.getD order.length []).getD j 0 else false) then (a.getD (order.getD j 0).toNat []).getD i 0 == (b.getD j []).getD order.length 0 else false) = fitK a b order i (j + 1) := by
        rw [hst, bif_and, eq1, eq1]
        first | done | rfl
      rw [hfe]
      refine Run.RW ?_
      refine Run.reK hpin [0, 1, 2, 3, 8, 9, 10, 11, 12, 26, 27, 33, 34, 35] [0] (by decide) (by simp) ?_; simp only [AR, AW7, simprocAttr]
      refine Run.le ?_ (ihK (j + 1) (by omega) (by (try simp only [List.length_append, List.length_cons, List.length_nil]); omega))
      exact Le.sub (by rfl) (by simp only [AW7, simprocAttr]; try simp)
    intro h3
    have h3 : j = order.length := by rw [decide_eq_false_iff_not] at h3; omega
    subst h3
    rw [fitK_all]
    refine Run.exit rfl ?_; refine Run.nq ?_
    refine Run.R ?_
    refine Run.nq ?_; refine Run.cW ?_ ?_
    · intro h4
      have h4 : fitM a b order i = true := h4
      rw [mtL_fit _ _ _ _ _ _ h2 h4] at hE
      have hl2 : letters a.length (order ++ [(i : Int)]) := letters_append.2 ⟨hlet, by intro x hx; simp at hx; subst hx; omega⟩
      have hone := mtI_one a b f (order ++ [(i : Int)])
      refine Run.nq ?_; refine Run.regionW hC (fun K hK => ?_); refine wW ?_
      refine FunA.cW hP hT (c_slices_Clone order (by omega)) ?_
      rintro rs o ⟨nn, rfl, rfl⟩
      refine wW ?_
      refine FunA.callW hP hT (ihf (order ++ [(i : Int)]) hl2 (by simp only [List.length_append, List.length_cons, List.length_nil]; omega)) (by simp only [AW7, simprocAttr]; first | rfl | trivial) ?_
      rintro rs o ⟨rfl, ys, hy, rfl⟩
      have hyl : ys.length = (mtI a b f (order ++ [(i : Int)]) 1).length := by rw [← hy]; simp [rw2]
      refine wW ?_
      refine wE ?_; clear hK K
      refine Run.R ?_
      refine Run.nq ?_; refine Run.cW ?_ ?_
      · intro h5
        have h5 : 1 ≤ ys.length := by rw [decide_eq_true_eq] at h5; omega
        rw [if_pos (by omega)] at hE
        refine Run.exit rfl ?_; refine Run.nq ?_
        refine Run.R ?_
        refine Run.reK hpin [8] [0] (by decide) (by simp) ?_; simp only [AR, AW7, simprocAttr]
        refine Run.rW [8] (hfin _ _ rfl rfl ?_)
        exact ⟨rfl, ys, hy.trans hE, rfl⟩
      · intro h5
        have h5 : ys.length = 0 := by rw [decide_eq_false_iff_not] at h5; omega
        have h6 : ys = [] := List.eq_nil_of_length_eq_zero h5
        subst h6
        rw [if_neg (by omega)] at hE
        refine Run.RW ?_
        refine Run.reK hpin [0, 1, 2, 3, 8, 9, 10, 26, 27] [0] (by decide) (by simp) ?_; simp only [AR, AW7, simprocAttr]
        refine Run.le ?_ (ih (i + 1) (⟨h, hE⟩) (by (try simp only [List.length_append, List.length_cons, List.length_nil]); omega))
        exact Le.sub (by rfl) (by simp only [AW7, simprocAttr]; try simp)
    · intro h4
      have h4 : fitM a b order i = false := h4
      rw [mtL_nofit _ _ _ _ _ _ h2 h4] at hE
      refine Run.R ?_
      refine Run.nq ?_; refine Run.cW ?_ ?_
      · intro h5; simp at h5
      intro _
      refine Run.RW ?_
      refine Run.reK hpin [0, 1, 2, 3, 8, 9, 10, 26, 27] [0] (by decide) (by simp) ?_; simp only [AR, AW7, simprocAttr]
      refine Run.le ?_ (ih (i + 1) (⟨h, hE⟩) (by (try simp only [List.length_append, List.length_cons, List.length_nil]); omega))
      exact Le.sub (by rfl) (by simp only [AW7, simprocAttr]; try simp)
theorem isoI_eq {a b : List (List Int)} (ha : CartanP a) (hb : CartanP b) (h : a.length = b.length) : isoI a b = !(mtI a b b.length [] 1).isEmpty := by
  unfold isoI
  rw [← ctB_eq, ← ctB_eq, isC_true ha, isC_true hb]
  simp [h]
theorem c_impl_AreIsomorphic (a b : List (List Int)) (ha : CartanP a) (hb : CartanP b) : FunA B 156 [.sl false (.row false) a, .sl false (.row false) b] (fun rs o => (rs = [.own 0 0, .bool false] ∧ isoI a b = false ∧ o = [.arr .int [] 0 true]) ∨ (∃ l xs, rs = [.lr l xs, .bool true] ∧ isoI a b = true ∧ o = [])) := by
  have hn := ha.2.1
  refine FunA.walk B_ok (fn := Tryz.f156) (fun vs w => Tryz.call156 vs w) Tryz.func156 rfl (by rw [Tryz.ntmps156]; simp) (fun C hC hP hT hΓ hbt hfn hpin hfin => ?_); have hX := BX; rw [← hΓ, ← hbt.1, ← hbt.2.1, ← hbt.2.2.1] at hX; rw [hT] at hX; rw [Tryz.ntmps156]; simp only [AW7, simprocAttr, hX]
  refine Run.R ?_
  refine Run.nq ?_; refine Run.regionW hC (fun K hK => ?_); refine wW ?_
  refine FunA.cW hP hT (c_impl_IsCartan a) ?_
  rintro rs o ⟨rfl, rfl⟩
  rw [isC_true ha]
  refine wW ?_
  refine .inl (FunA.callG hP hT (c_impl_IsCartan b) (fun _ => rfl) (fun _ => by simp only [AW7, simprocAttr]) ?_)
  rw [isC_true hb]
  refine wW ?_
  refine wE ?_; clear hK K
  refine Run.nq ?_; refine Run.cW ?_ ?_
  · intro h
    have h : a.length ≠ b.length := by intro e; simp [e] at h
    refine Run.R ?_
    refine Run.rW [4, 5] (hfin _ _ rfl rfl ?_)
    refine .inl ⟨rfl, ?_, rfl⟩
    unfold isoI
    rw [show (a.length == b.length) = false by simpa using h]
    rfl
  intro h
  have h : a.length = b.length := by simp at h; omega
  have hiso := isoI_eq ha hb h
  refine Run.nq ?_; refine Run.regionW hC (fun K hK => ?_); refine wW ?_
  refine FunA.cW hP hT (c_impl_matches a b ha hb h b.length [] (letters_nil _) (by simp)) ?_
  rintro rs o ⟨rfl, ys, hy, rfl⟩
  refine wW ?_
  refine wE ?_; clear hK K
  rw [← hy] at hiso
  refine Run.R ?_
  refine Run.nq ?_; refine Run.cW ?_ ?_
  · intro h2
    have h2 : ys = [] := by
      have h2 : (ys.length : Int) = 0 := by simpa using h2
      exact List.eq_nil_of_length_eq_zero (by omega)
    subst h2
    refine Run.R ?_
    refine Run.reK hpin [4, 5] [1] (by decide) (by simp) ?_; simp only [AR, AW7, simprocAttr]
    refine Run.rW [4, 5] (hfin _ _ rfl rfl ?_)
    exact .inl ⟨rfl, hiso, rfl⟩
  · intro h2
    have h2 : 0 < ys.length := by
      have h2 : ¬ (ys.length : Int) = 0 := by simpa using h2
      omega
    refine Run.R ?_
    refine Run.reK hpin [4, 5] [] (by decide) (by simp) ?_; simp only [AR, AW7, simprocAttr]
    refine Run.rW [4, 5] (hfin _ _ rfl rfl ?_)
    refine .inr ⟨_, _, rfl, ?_, rfl⟩
    rw [hiso]
    cases ys with
    | nil => simp at h2
    | cons y ys => rfl
end Go.Proofs.YtaghdbbcadhjdaaGreatDoor
namespace Go.Proofs.YtaghdbbcadhjdaaGreatDoor
open Go Go.Aw Go.Cox
def tyNames : List UInt8 := [65, 49, 32, 65, 50, 32, 65, 51, 32, 65, 52, 32, 66, 50, 32, 66, 51, 32, 66, 52, 32, 67, 51, 32, 67, 52, 32, 68, 52, 32, 70, 52, 32, 71, 50, 32, 65, 49, 126, 32, 65, 50, 126, 32, 65, 51, 126, 32, 67, 50, 126, 32, 71, 50, 126]
theorem tyNames_split : Lib.split tyNames [32] = tyL.map (·.1) := by decide +kernel
theorem c_impl_NameOfPart (c : List (List Int)) (hc : CartanP c) : FunA B 131 [.sl false (.row false) c] (fun rs o => rs = [.str (nameI c)] ∧ o = []) := by
  have hlen : (tyL.map (·.1)).length = 17 := by decide
  have hct1 : ctB c = true := by rw [← ctB_eq]; exact isC_true hc
  refine FunA.walk B_ok (fn := Tryz.f131) (fun vs w => Tryz.call131 vs w) Tryz.func131 rfl (by rw [Tryz.ntmps131]; simp) (fun C hC hP hT hΓ hbt hfn hpin hfin => ?_); have hX := BX; rw [← hΓ, ← hbt.1, ← hbt.2.1, ← hbt.2.2.1] at hX; rw [hT] at hX; rw [Tryz.ntmps131]; simp only [AW7, simprocAttr, hX]
  refine Run.R ?_
  refine Run.nq ?_; refine Run.regionW hC (fun K hK => ?_); refine wW ?_
  refine FunA.cW hP hT (c_impl_IsConnected c hc) ?_
  rintro rs o ⟨rfl, rfl⟩
  refine wW ?_
  refine wE ?_; clear hK K
  refine Run.nq ?_; refine Run.cW ?_ ?_
  · intro h
    have h : ((partsI c).length == 1) = false := by simpa using h
    refine Run.R ?_
    refine Run.rW [2] (hfin _ _ rfl rfl ?_)
    exact ⟨by unfold nameI; rw [h, hct1]; rfl, rfl⟩
  intro h
  have h : ((partsI c).length == 1) = true := by simpa using h
  have hnm : nameI c = firstT isoI c tyL := by unfold nameI; rw [h, hct1]; rfl
  refine Run.nq ?_; refine Run.regionW hC (fun K hK => ?_); refine wW ?_
  refine FunA.callW hP hT (c_strings_Split tyNames 32 (by decide)) (by simp only [AW7, simprocAttr]; rfl) ?_
  rintro rs o ⟨rfl, rfl⟩
  rw [tyNames_split]
  refine wW ?_
  refine wE ?_; clear hK K
  rw [hlen]
  refine Run.reK hpin [0, 2, 12, 13, 14] [0] (by decide) (by simp) ?_; simp only [AR, AW7, simprocAttr]
  refine Run.loopI (X := Nat) (fun k => ⟨32, [(0, true, .v (.sl false (.row false) (c))), (2, true, .v (.str ([]))), (12, true, .v (.own 0 0)), (13, true, .v (.int .i64 ((17 : Nat)))), (14, true, .v (.int .i64 (k)))], [.arr .str ((tyL.map (·.1))) 0 true]⟩) (fun k => k ≤ 17 ∧ ∀ j, j < k → isoI c (tyL.getD j ([], [], 0)).2.1 = false) (fun k => 17 - k) (0) (⟨by omega, fun j hj => by omega⟩) ?_ ?_
  · exact Le.sub (by first | rfl | simp) (by simp only [AW7, simprocAttr, hX]; try simp <;> try (first | rfl | exact ⟨rfl, rfl⟩ | exact ⟨rfl, rfl, rfl⟩))
  rintro k ⟨hk, hF⟩ ih
  try simp only []
  refine Run.R ?_
  refine Run.nq ?_; refine Run.cW ?_ ?_
  rotate_left
  · intro h
    have h : k = 17 := by rw [decide_eq_false_iff_not] at h; omega
    subst h
    refine Run.exit rfl ?_; refine Run.nq ?_
    refine Run.R ?_
    refine Run.reK hpin [2] [] (by decide) (by simp) ?_; simp only [AR, AW7, simprocAttr]
    refine Run.rW [2] (hfin _ _ rfl rfl ?_)
    exact ⟨by rw [hnm, firstT_none isoI c tyL (fun j hj => hF j hj)], rfl⟩
  intro h
  have h : k < 17 := by rw [decide_eq_true_eq] at h; omega
  obtain ⟨t1, t2, t3, t4⟩ := tyA_fine k h
  have hct := tyA_cartan h
  refine Run.R ?_
  rw [t4]
  refine Run.nq ?_; refine Run.regionW hC (fun K hK => ?_); refine wW ?_
  refine FunA.cW hP hT (c_impl_TypeCartan (tyA k).1 t2) ?_
  rintro rs o ⟨rfl, hs, rfl⟩
  rw [t1]
  refine wW ?_
  refine wE ?_; clear hK K
  refine Run.nq ?_; refine Run.regionW hC (fun K hK => ?_); refine wW ?_
  refine FunA.cW hP hT (c_impl_AreIsomorphic c (tyA k).2.1 hc hct) ?_
  rintro rs o h2
  rcases h2 with ⟨rfl, hi, rfl⟩ | ⟨l, xs, rfl, hi, rfl⟩
  · refine wW ?_
    refine wE ?_; clear hK K
    refine Run.R ?_
    refine Run.nq ?_; refine Run.cW ?_ ?_
    · intro h3; cases h3
    intro _
    refine Run.RW ?_
    refine Run.reK hpin [0, 2, 12, 13, 14] [0] (by decide) (by simp) ?_; simp only [AR, AW7, simprocAttr]
    refine Run.le ?_ (ih (k + 1) (⟨h, fun j hj => (by
      by_cases hj2 : j = k
      · subst hj2; exact hi
      · exact hF j (by omega))⟩) (by (try simp only [List.length_append, List.length_cons, List.length_nil]); omega))
    exact Le.sub (by rfl) (by simp only [AW7, simprocAttr]; try simp)
  · refine wW ?_
    refine wE ?_; clear hK K
    refine Run.R ?_
    refine Run.nq ?_; refine Run.cW ?_ ?_
    rotate_left
    · intro h3; cases h3
    intro _
    refine Run.R ?_
    refine Run.reK hpin [2] [] (by decide) (by simp) ?_; simp only [AR, AW7, simprocAttr]
    refine Run.rW [2] (hfin _ _ rfl rfl ?_)
    exact ⟨by rw [hnm, show firstT isoI c tyL = (tyA k).1 from firstT_take isoI c tyL k h hF hi], rfl⟩
def setOk (n : Nat) (p : List Int) : Bool := Nat.blt 0 p.length && (List.range p.length).all fun i => decide (0 ≤ p.getD i 0) && (decide (p.getD i 0 < (n : Int)) && (Nat.beq i 0 || decide (p.getD (i - 1) 0 < p.getD i 0)))
def chkP (c : List (List Int)) : Bool := Nat.ble (partsI c).length c.length && (partsI c).all (setOk c.length)
set_option maxRecDepth 100000 in
theorem chkP1 : (finM 1).all chkP = true := by decide +kernel
set_option maxRecDepth 100000 in
theorem chkP2 : (finM 2).all chkP = true := by decide +kernel
set_option maxRecDepth 100000 in
theorem chkP3 : (finM 3).all chkP = true := by decide +kernel
set_option maxRecDepth 100000 in
theorem chkP4 : (finM 4).all chkP = true := by decide +kernel
theorem partsI_set {c : List (List Int)} (hF : FinP c) : (partsI c).length ≤ c.length ∧ ∀ p ∈ partsI c, setP c.length p ∧ p ≠ [] := by
  have h := fin_chk hF chkP1 chkP2 chkP3 chkP4
  simp only [chkP, setOk, Bool.and_eq_true, Bool.or_eq_true, List.all_eq_true, List.mem_range, decide_eq_true_eq] at h
  refine ⟨Nat.le_of_ble_eq_true h.1, fun p hp => ⟨fun i hi => ?_, fun e => ?_⟩⟩
  · obtain ⟨h1, h2, h3⟩ := (h.2 p hp).2 i hi
    exact ⟨h1, h2, fun h0 => h3.resolve_left fun e => by have := Nat.eq_of_beq_eq_true e; omega⟩
  · have := (h.2 p hp).1
    rw [e] at this
    cases this
theorem c_impl_NameOf (c : List (List Int)) (hF : FinP c) : FunA BJ 100 [.sl false (.row false) c] (fun rs o => rs = [.str (joinX ((partsI c).map fun p => nameI (pick c p)))] ∧ o = []) := by
  have hc := hF.1
  have hn := hc.2.1
  obtain ⟨hpl, hps⟩ := partsI_set hF
  refine FunA.walk BJ_ok (fn := Tryz.f100) (fun vs w => Tryz.call100 vs w) Tryz.func100 rfl (by rw [Tryz.ntmps100]; simp) (fun C hC hP hT hΓ hbt hfn hpin hfin => ?_); haveI hDJ : DrLe BJ C := ⟨fun h => by rw [hbt.2.2.2] at h; cases h⟩; have hPJ := hP; have hTJ := hT; replace hP : B.P = C.P := hP; replace hT : B.tid = C.tid := hT; have hX := BXJ; rw [← hΓ, ← hbt.1, ← hbt.2.1, ← hbt.2.2.1] at hX; rw [hTJ] at hX; rw [Tryz.ntmps100]; simp only [AW7, simprocAttr, hX]
  refine Run.R ?_
  refine Run.R ?_
  refine Run.nq ?_; refine Run.regionW hC (fun K hK => ?_); refine wW ?_
  refine FunA.cW hP hT (c_impl_PartsOf c hc) ?_
  rintro rs o ⟨rfl, ys, hy, rfl⟩
  refine wW ?_
  refine wE ?_; clear hK K
  have hyl : ys.length = (partsI c).length := by rw [← hy]; simp [rw2]
  refine Run.reK hpin [0, 2, 3, 8, 9, 10] [0, 1] (by decide) (by simp) ?_; simp only [AR, AW7, simprocAttr]
  refine Run.loopI (X := Nat) (fun k => ⟨24, [(0, true, .v (.sl false (.row false) (c))), (2, true, .v (.str ([]))), (3, true, .v (.own 0 0)), (8, true, .v (.own 1 0)), (9, true, .v (.int .i64 ((ys.length : Nat)))), (10, true, .v (.int .i64 (k)))], [.arr .str ((((partsI c).take k).map fun p => nameI (pick c p))) 0 true, .arr .lrow (ys) 0 true]⟩) (fun k => k ≤ ys.length) (fun k => ys.length - k) (0) (Nat.zero_le _) ?_ ?_
  · exact Le.sub (by first | rfl | simp) (by simp only [AW7, simprocAttr, hX]; try simp <;> try (first | rfl | exact ⟨rfl, rfl⟩ | exact ⟨rfl, rfl, rfl⟩))
  rintro k hk ih
  try simp only []
  have hkl : (((partsI c).take k).map fun p => nameI (pick c p)).length ≤ 4 := by rw [List.length_map, List.length_take]; omega
  refine Run.R ?_
  refine Run.nq ?_; refine Run.cW ?_ ?_
  rotate_left
  · intro h
    have h : k = ys.length := by rw [decide_eq_false_iff_not] at h; omega
    subst h
    rw [hyl, List.take_length]
    refine Run.exit rfl ?_; refine Run.nq ?_
    have hjl := joinX_len ((partsI c).map fun p => nameI (pick c p)) (fun x hx => by
      obtain ⟨q, _, rfl⟩ := List.mem_map.1 hx
      unfold nameI
      cases ctB (pick c q) && (partsI (pick c q)).length == 1
      · simp
      · exact (firstT_ok _ _).2)
    rw [List.length_map] at hjl
    have hjx := join_X ((partsI c).map fun p => nameI (pick c p))
    refine Run.nq ?_; refine Run.regionW hC (fun K hK => ?_); refine wW ?_
    refine FunA.cW hPJ hTJ (c_strings_Join ((partsI c).map fun p => nameI (pick c p)) [120] (by rw [List.length_map]; omega) (by rw [hjx]; omega)) ?_
    rintro rs o ⟨rfl, rfl⟩
    rw [hjx]
    refine wW ?_
    refine wE ?_; clear hK K
    refine Run.reK hpin [2] [] (by decide) (by simp) ?_; simp only [AR, AW7, simprocAttr]
    refine Run.rW [2] (hfin _ _ rfl rfl ?_)
    exact ⟨rfl, rfl⟩
  intro h
  have h : k < ys.length := by rw [decide_eq_true_eq] at h; omega
  have hgp : (ys.getD k (0, [])).2 = (partsI c).getD k [] := by rw [← hy]; simp [rw2, List.getD_eq_getElem?_getD, h]
  have hpm : (partsI c).getD k [] ∈ partsI c := by rw [List.getD_eq_getElem?_getD, List.getElem?_eq_getElem (by omega)]; exact List.getElem_mem _
  obtain ⟨hset, hpne⟩ := hps _ hpm
  have hst := map_snoc (fun p => nameI (pick c p)) (partsI c) [] k (by omega)
  have hcp := pick_cartan hc hset hpne
  have hp4 := set_len hset
  generalize (partsI c).getD k [] = p at *
  refine Run.nq ?_; refine Run.regionW hC (fun K hK => ?_); refine wW ?_
  try rw [hgp]
  refine wW ?_
  refine wE ?_; clear hK K
  try rw [hgp]
  refine Run.nq ?_; refine Run.regionW hC (fun K hK => ?_); refine wW ?_
  try rw [hgp]
  refine FunA.cW hP hT (c_impl_picked c p hn hc.2.2.1 (set_letters hset) (by omega)) ?_
  rintro rs o ⟨rfl, zs, hz, rfl⟩
  rw [← hz] at hcp hst
  have hnl : (nameI (zs.map (·.2))).length ≤ maxLen := by
    unfold nameI
    cases ctB (zs.map (·.2)) && (partsI (zs.map (·.2))).length == 1
    · simp
    · have := (firstT_ok isoI (zs.map (·.2))).2
      simp only [cond_true]
      unfold maxLen
      omega
  refine wW ?_
  refine FunA.cW hP hT (c_impl_NameOfPart (zs.map (·.2)) hcp) ?_
  rintro rs o ⟨rfl, rfl⟩
  refine wW ?_
  refine wE ?_; clear hK K
  refine Run.RW ?_
  refine Run.reK hpin [0, 2, 3, 8, 9, 10] [0, 1] (by decide) (by simp) ?_; simp only [AR, AW7, simprocAttr]
  refine Run.le ?_ (ih (k + 1) (by omega) (by (try simp only [List.length_append, List.length_cons, List.length_nil]); omega))
  exact Le.sub (by first | rfl | (simp only [← hst]; done) | (rw [← hst]; rfl)) (by simp only [AW7, simprocAttr]; try simp)
theorem c_impl_SizeByName (s : List UInt8) (hs : s.length ≤ 1000) : FunA B 99 [.str s] (fun rs o => rs = [.int .i64 (sizeL (cutX [] s))] ∧ o = []) := by
  refine FunA.walk B_ok (fn := Tryz.f99) (fun vs w => Tryz.call99 vs w) Tryz.func99 rfl (by rw [Tryz.ntmps99]; simp) (fun C hC hP hT hΓ hbt hfn hpin hfin => ?_); have hX := BX; rw [← hΓ, ← hbt.1, ← hbt.2.1, ← hbt.2.2.1] at hX; rw [hT] at hX; rw [Tryz.ntmps99]; simp only [AW7, simprocAttr, hX]
  refine Run.R ?_
  refine Run.nq ?_; refine Run.regionW hC (fun K hK => ?_); refine wW ?_
  refine FunA.cW hP hT (c_strings_Split s 120 (by omega)) ?_
  rintro rs o ⟨rfl, rfl⟩
  rw [split_cutX]
  refine wW ?_
  refine wE ?_; clear hK K
  have hl := cutX_len s []
  have hsz := sizeL_eq (cutX [] s)
  generalize cutX [] s = l at *
  refine Run.R ?_
  refine Run.nq ?_; refine Run.cW ?_ ?_
  · intro h
    have h : 4 < l.length := by rw [decide_eq_true_eq] at h; omega
    refine Run.R ?_
    refine Run.reK hpin [2] [] (by decide) (by simp) ?_; simp only [AR, AW7, simprocAttr]
    refine Run.rW [2] (hfin _ _ rfl rfl ?_)
    exact ⟨by rw [hsz, if_neg (by omega)], rfl⟩
  intro h
  have h4 : l.length ≤ 4 := by rw [decide_eq_false_iff_not] at h; omega
  refine Run.R ?_
  refine Run.R ?_
  refine Run.reK hpin [0, 2, 3, 4, 12, 13, 14] [0] (by decide) (by simp) ?_; simp only [AR, AW7, simprocAttr]
  refine Run.loopI (X := Nat) (fun i => ⟨24, [(0, true, .v (.str (s))), (2, true, .v (.int .i64 (0))), (3, true, .v (.own 0 0)), (4, true, .v (.int .i64 (((szN (l.take i) : Nat))))), (12, true, .v (.own 0 0)), (13, true, .v (.int .i64 ((l.length : Nat)))), (14, true, .v (.int .i64 (i)))], [.arr .str (l) 0 true]⟩) (fun i => i ≤ l.length) (fun i => l.length - i) (0) (Nat.zero_le _) ?_ ?_
  · exact Le.sub (by first | rfl | simp) (by simp only [AW7, simprocAttr, hX]; try simp <;> try (first | rfl | exact ⟨rfl, rfl⟩ | exact ⟨rfl, rfl, rfl⟩))
  rintro i hi ih
  try simp only []
  refine Run.R ?_
  refine Run.nq ?_; refine Run.cW ?_ ?_
  rotate_left
  · intro h
    have h : i = l.length := by rw [decide_eq_false_iff_not] at h; omega
    subst h
    rw [List.take_length]
    refine Run.exit rfl ?_; refine Run.nq ?_
    refine Run.R ?_
    refine Run.reK hpin [2] [] (by decide) (by simp) ?_; simp only [AR, AW7, simprocAttr]
    refine Run.rW [2] (hfin _ _ rfl rfl ?_)
    exact ⟨by rw [hsz, if_pos h4], rfl⟩
  intro h
  have h : i < l.length := by rw [decide_eq_true_eq] at h; omega
  have hst := szN_step l i h
  have hb1 := szN_le l i
  have hb2 := szN_le l (i + 1)
  have hb3 := pow_small i (by omega)
  have hb4 := pow_small (i + 1) (by omega)
  refine Run.R ?_
  have hw : IntKind.i64.wrap (((szN (l.take i) : Nat) : Int) * ((sizeT (l.getD i []) : Nat) : Int)) = ((szN (l.take (i + 1)) : Nat) : Int) := by
    rw [hst, ← Int.natCast_mul, wrap_id (by rw [← hst]; omega)]
  refine Run.nq ?_; refine Run.regionW hC (fun K hK => ?_); refine wW ?_
  refine FunA.cW hP hT (c_impl_sizeOfType (l.getD i [])) ?_
  rintro rs o ⟨rfl, rfl⟩
  refine wW ?_
  rw [hw]
  refine wW ?_
  refine wE ?_; clear hK K
  refine Run.RW ?_
  refine Run.reK hpin [0, 2, 3, 4, 12, 13, 14] [0] (by decide) (by simp) ?_; simp only [AR, AW7, simprocAttr]
  refine Run.le ?_ (ih (i + 1) (by omega) (by (try simp only [List.length_append, List.length_cons, List.length_nil]); omega))
  exact Le.sub (by rfl) (by simp only [AW7, simprocAttr]; try simp)
theorem c_impl_SizeOf (c : List (List Int)) : FunA BJ 67 [.sl false (.row false) c] (fun rs o => rs = [.int .i64 (sizeE c)] ∧ o = []) := by
  refine FunA.walk BJ_ok (fn := Tryz.f67) (fun vs w => Tryz.call67 vs w) Tryz.func67 rfl (by rw [Tryz.ntmps67]; simp) (fun C hC hP hT hΓ hbt hfn hpin hfin => ?_); haveI hDJ : DrLe BJ C := ⟨fun h => by rw [hbt.2.2.2] at h; cases h⟩; have hPJ := hP; have hTJ := hT; replace hP : B.P = C.P := hP; replace hT : B.tid = C.tid := hT; have hX := BXJ; rw [← hΓ, ← hbt.1, ← hbt.2.1, ← hbt.2.2.1] at hX; rw [hTJ] at hX; rw [Tryz.ntmps67]; simp only [AW7, simprocAttr, hX]
  refine Run.R ?_
  refine Run.nq ?_; refine Run.regionW hC (fun K hK => ?_); refine wW ?_
  refine FunA.cW hP hT (c_impl_IsFinite c) ?_
  rintro rs o ⟨rfl, rfl⟩
  refine wW ?_
  refine wE ?_; clear hK K
  refine Run.nq ?_; refine Run.cW ?_ ?_
  · intro h
    have h : isF c = false := by simpa using h
    refine Run.R ?_
    refine Run.rW [2] (hfin _ _ rfl rfl ?_)
    exact ⟨by unfold sizeE; rw [h]; rfl, rfl⟩
  intro h
  have h : isF c = true := by simpa using h
  have hF := isF_iff.1 h
  have hn := hF.1.2.1
  obtain ⟨hpl, _⟩ := partsI_set hF
  have hjl := joinX_len ((partsI c).map fun p => nameI (pick c p)) (fun x hx => by
    obtain ⟨q, _, rfl⟩ := List.mem_map.1 hx
    unfold nameI
    cases ctB (pick c q) && (partsI (pick c q)).length == 1
    · simp
    · exact (firstT_ok _ _).2)
  rw [List.length_map] at hjl
  refine Run.nq ?_; refine Run.regionW hC (fun K hK => ?_); refine wW ?_
  refine FunA.cW hPJ hTJ (c_impl_NameOf c hF) ?_
  rintro rs o ⟨rfl, rfl⟩
  refine wW ?_
  refine FunA.cW hP hT (c_impl_SizeByName (joinX ((partsI c).map fun p => nameI (pick c p))) (by omega)) ?_
  rintro rs o ⟨rfl, rfl⟩
  refine wW ?_
  refine wE ?_; clear hK K
  refine Run.reK hpin [2] [] (by decide) (by simp) ?_; simp only [AR, AW7, simprocAttr]
  refine Run.rW [2] (hfin _ _ rfl rfl ?_)
  exact ⟨by unfold sizeE; rw [if_pos h]; rfl, rfl⟩
end Go.Proofs.YtaghdbbcadhjdaaGreatDoor
namespace Go.Proofs.YtaghdbbcadhjdaaGreatDoor
open Go Go.Aw Go.Cox
def Mk (n : Nat) (nx : List (List Int)) (l : List (MK × MV)) : Prop := (∀ v, v.length = n → mgetB l (.vec (key4 v)) = decide (v ∈ nx)) ∧ ∀ v ∈ nx, v.length = n
theorem Mk.nil (n : Nat) : Mk n [] [] := ⟨fun v _ => by rw [mgetB_nil]; simp, by simp⟩
theorem Mk.put {n : Nat} (hn : n ≤ 4) {nx : List (List Int)} {l : List (MK × MV)} (h : Mk n nx l) {v : List Int} (hv : v.length = n) : Mk n (nx ++ [v]) (mput l (.vec (key4 v)) (.bool true)) := by
  refine ⟨fun u hu => ?_, fun u hu => ?_⟩
  · rw [mgetB_put, h.1 u hu]
    by_cases e : u = v
    · subst e
      rw [if_pos rfl]; simp
    · rw [if_neg (fun e2 => e (key4_inj (by omega) (by omega) (by injection e2)))]
      simp [e]
  · rcases List.mem_append.1 hu with h1 | h1
    · exact h.2 u h1
    · simp at h1; rw [h1]; exact hv
theorem getD_key (l : List (List Int)) (k : Nat) (d : List Int) (h : k < l.length) : (l.map key4).getD k d = key4 (l.getD k []) := by
  simp [List.getD_eq_getElem?_getD, h]
theorem key4_get (x : List Int) (i : Nat) (h : i < 4) : (key4 x).getD i 0 = x.getD i 0 := by
  unfold key4
  match i, h with
  | 0, _ => rfl
  | 1, _ => rfl
  | 2, _ => rfl
  | 3, _ => rfl
theorem row_fresh {ys : List (Nat × List Int)} {q : Nat} {r : List Int} (hN : (lb1 ys).Nodup) (hq : ∀ p ∈ ys, p.1 ≠ q) : (lb1 (ys ++ [(q, r)])).Nodup := by
  rw [lb1_app, List.nodup_append]
  refine ⟨hN, by simp [lb1], fun a ha b hb => ?_⟩
  simp [lb1] at hb
  subst hb
  obtain ⟨p, hp, rfl⟩ := List.mem_map.1 ha
  exact hq p hp
theorem shl_len {c : List (List Int)} (hF : FinP c) (hs : (allL c).length ≤ 200) {L : Nat} (hL : L ≤ 25) : (shl c L).length ≤ 200 := by
  cases L with
  | zero => simp [shl]
  | succ L =>
    have h1 := outS_len hF.1 (L := L) (by omega)
    have h2 := outS_le (c := c) hL
    omega
set_option maxHeartbeats 2000000 in
theorem c_impl_ball (c : List (List Int)) (hF : FinP c) (hs : (allL c).length ≤ 200) : FunA B 68 [.sl false (.row false) c, .int .i64 60, .int .i64 200] (fun rs o => rs = [.own 0 0, .bool true] ∧ ∃ ys, (rw2 ys = allL c ∧ (lb1 ys).Nodup) ∧ o = [.arr .lrow ys 0 true]) := by
  have hc := hF.1
  have hn := hc.2.1
  have hn1 := hc.1
  have hol : (ones c.length).length = c.length := by simp [ones]
  refine FunA.walk B_ok (fn := Tryz.f68) (fun vs w => Tryz.call68 vs w) Tryz.func68 rfl (by rw [Tryz.ntmps68]; simp) (fun C hC hP hT hΓ hbt hfn hpin hfin => ?_); have hX := BX; rw [← hΓ, ← hbt.1, ← hbt.2.1, ← hbt.2.2.1] at hX; rw [hT] at hX; rw [Tryz.ntmps68]; simp only [AW7, simprocAttr, hX]
  refine Run.R ?_
  refine Run.nq ?_; refine Run.regionW hC (fun K hK => ?_); refine wW ?_
  intro l0 hl0
  refine wW ?_
  refine wE ?_; clear hK K
  refine Run.nq ?_; refine Run.regionW hC (fun K hK => ?_); refine wW ?_
  refine FunA.cW hP hT (c_impl_ones c.length (by omega)) ?_
  rintro rs o ⟨rfl, rfl⟩
  refine wW ?_
  refine FunA.cW hP hT (c_impl_vectorOf (ones c.length) (by omega) (by omega)) ?_
  rintro rs o ⟨rfl, rfl⟩
  refine wW ?_
  refine wE ?_; clear hK K
  refine Run.R ?_
  refine Run.reK hpin [0, 1, 2, 6, 7, 8, 9, 10] [1, 3] (by decide) (by simp) ?_; simp only [AR, AW7, simprocAttr]
  refine Run.loopI (X := Nat × List (Nat × List Int)) (fun x => ⟨109, [(0, true, .v (.sl false (.row false) (c))), (1, true, .v (.int .i64 (60))), (2, true, .v (.int .i64 (200))), (6, true, .v (.nils)), (7, true, .v (.bool (false))), (8, true, .v (.own 0 0)), (9, true, .v (.own 1 0)), (10, true, .v (.int .i64 (((x.1 : Int) + 1))))], [.arr .lrow (x.2) 0 true, .arr .vec ((shl c x.1).map key4) 0 true]⟩) (fun x => x.1 ≤ 25 ∧ rw2 x.2 = outS c x.1 ∧ (lb1 x.2).Nodup) (fun x => 26 - x.1) ((0, [(l0, [])])) (⟨by simp, rfl, by simp [lb1]⟩) ?_ ?_
  · exact Le.sub (by first | rfl | simp) (by simp only [AW7, simprocAttr, hX]; try simp <;> try (first | rfl | exact ⟨rfl, rfl⟩ | exact ⟨rfl, rfl, rfl⟩))
  rintro ⟨L, ys⟩ ⟨hL, hE, hND⟩ ihO
  try simp only []
  simp only [] at hL hE hND
  have hsl := shl_len hF hs hL
  have hsp := (shl_spec hc L).2
  have hml : ((shl c L).map key4).length = (shl c L).length := List.length_map ..
  refine Run.R ?_
  refine Run.nq ?_; refine Run.cW ?_ ?_
  rotate_left
  · intro h
    have h : shl c L = [] := by
      cases hq : shl c L with
      | nil => rfl
      | cons a r =>
        rw [hml, hq] at h
        have e1 : decide ((L : Int) + 1 ≤ 60) = true := by rw [decide_eq_true_eq]; omega
        rw [e1] at h
        simp at h
    refine Run.exit rfl ?_; refine Run.nq ?_
    refine Run.R ?_
    refine Run.reK hpin [6, 7] [0] (by decide) (by simp) ?_; simp only [AR, AW7, simprocAttr]
    refine Run.rW [6, 7] (hfin _ _ rfl rfl ?_)
    exact ⟨rfl, ys, ⟨hE.trans (shl_all hL h), hND⟩, rfl⟩
  intro h
  have h0 : 0 < (shl c L).length := by
    rw [hml] at h
    rcases Nat.eq_zero_or_pos (shl c L).length with e | e
    · rw [e] at h; simp at h
    · exact e
  clear h
  have hL24 : L ≤ 24 := by
    obtain ⟨v, hv⟩ := List.exists_mem_of_length_pos h0
    exact fin_len hF _ ((hsp v).1 hv)
  refine Run.R ?_
  refine Run.R ?_
  refine Run.R ?_
  rw [hml]
  refine Run.reK hpin [0, 1, 2, 6, 7, 8, 9, 10, 11, 12, 40, 41, 42] [0, 1, 2, 3] (by decide) (by simp) ?_; simp only [AR, AW7, simprocAttr]
  refine Run.loopI (X := Nat × List (List Int) × List (MK × MV)) (fun y => ⟨109, [(0, true, .v (.sl false (.row false) (c))), (1, true, .v (.int .i64 (60))), (2, true, .v (.int .i64 (200))), (6, true, .v (.nils)), (7, true, .v (.bool (false))), (8, true, .v (.own 0 0)), (9, true, .v (.own 1 0)), (10, true, .v (.int .i64 (((L : Int) + 1)))), (11, true, .v (.own 2 0)), (12, true, .v (.own 3 0)), (40, true, .v (.own 1 0)), (41, true, .v (.int .i64 (((shl c L).length : Nat)))), (42, true, .v (.int .i64 (y.1)))], [.arr .lrow (ys) 0 true, .arr .vec ((shl c L).map key4) 0 true, .mp ⟨true, false⟩ y.2.2 0, .arr .vec (y.2.1.map key4) 0 true]⟩) (fun y => (y.1 ≤ (shl c L).length ∧ y.2.1.length ≤ 4 * y.1) ∧ Mk c.length y.2.1 y.2.2 ∧ ((shl c L).take y.1).foldl (nxX c) [] = y.2.1) (fun y => (shl c L).length - y.1) ((0, [], [])) (⟨⟨Nat.zero_le _, by simp⟩, Mk.nil _, rfl⟩) ?_ ?_
  · exact Le.sub (by first | rfl | simp) (by simp only [AW7, simprocAttr, hX]; try simp <;> try (first | rfl | exact ⟨rfl, rfl⟩ | exact ⟨rfl, rfl, rfl⟩))
  rintro ⟨k, nx, l⟩ ⟨⟨hk, hnl⟩, hM, hN⟩ ihK
  try simp only []
  simp only [] at hk hnl hM hN
  refine Run.R ?_
  refine Run.nq ?_; refine Run.cW ?_ ?_
  rotate_left
  · intro h
    have h : k = (shl c L).length := by rw [decide_eq_false_iff_not] at h; omega
    subst h
    rw [List.take_length] at hN
    have hN2 : shl c (L + 1) = nx := hN
    have hyl : ys.length = (outS c L).length := by rw [← hE]; simp [rw2]
    have hon := outS_len hc (L := L) (by omega)
    have hol2 := outS_le (c := c) (L := L + 1) (by omega)
    rw [hN2] at hon
    have hnm : (nx.map key4).length = nx.length := List.length_map ..
    have hsp2 := (shl_spec hc (L + 1)).2
    rw [hN2] at hsp2
    refine Run.exit rfl ?_; refine Run.nq ?_
    refine Run.RW ?_
    rw [hnm]
    refine Run.nq ?_; refine Run.cW ?_ ?_
    · intro h5; rw [decide_eq_true_eq] at h5; exfalso; omega
    intro _
    refine Run.R ?_
    refine Run.R ?_
    rw [hnm]
    refine Run.reK hpin [0, 1, 2, 6, 7, 8, 10, 12, 18, 86, 87, 88] [0, 3, 4] (by decide) (by simp) ?_; simp only [AR, AW7, simprocAttr]
    refine Run.loopI (X := Nat × List (Nat × List Int)) (fun y => ⟨109, [(0, true, .v (.sl false (.row false) (c))), (1, true, .v (.int .i64 (60))), (2, true, .v (.int .i64 (200))), (6, true, .v (.nils)), (7, true, .v (.bool (false))), (8, true, .v (.own 0 0)), (10, true, .v (.int .i64 (((L : Int) + 1)))), (12, true, .v (.own 1 0)), (18, true, .v (.own 2 0)), (86, true, .v (.own 1 0)), (87, true, .v (.int .i64 ((nx.length : Nat)))), (88, true, .v (.int .i64 (y.1)))], [.arr .lrow (ys) 0 true, .arr .vec (nx.map key4) 0 true, .arr .lrow (y.2) 0 true]⟩) (fun y => y.1 ≤ nx.length ∧ rw2 y.2 = (nx.take y.1).map (nfL c 31) ∧ (lb1 (ys ++ y.2)).Nodup) (fun y => nx.length - y.1) ((0, [])) (⟨Nat.zero_le _, rfl, by simpa using hND⟩) ?_ ?_
    · exact Le.sub (by first | rfl | simp) (by simp only [AW7, simprocAttr, hX]; try simp <;> try (first | rfl | exact ⟨rfl, rfl⟩ | exact ⟨rfl, rfl, rfl⟩))
    rintro ⟨k, zs⟩ ⟨hk3, hZ, hND2⟩ ih
    try simp only []
    simp only [] at hk3 hZ hND2
    have hzl : zs.length = k := by have := congrArg List.length hZ; simpa [rw2, hk3] using this
    refine Run.R ?_
    refine Run.nq ?_; refine Run.cW ?_ ?_
    rotate_left
    · intro h5
      have h5 : k = nx.length := by rw [decide_eq_false_iff_not] at h5; omega
      subst h5
      rw [List.take_length, ← hN2] at hZ
      have hZ : rw2 zs = wds c (L + 1) := hZ
      have hlen : ∀ a, (a = [] ∨ a ∈ zs.map (·.2)) → a.length ≤ 1048576 := fun a ha => by
        rcases ha with rfl | ha
        · simp
        · have ha : a ∈ rw2 zs := ha
          rw [hZ] at ha
          have := ((wds_mem hc (by omega) a).1 ha).2
          omega
      refine Run.exit rfl ?_; refine Run.nq ?_
      refine Run.nq ?_; refine Run.regionW hC (fun K hK => ?_); refine wW ?_
      refine ACall.sort hP hT srtL rfl cmpW_swo 2 0 rfl (by omega) (fun a b ha _ => c_impl_CompareWords a b (hlen a ha)) ?_
      intro ys' hp hs
      have hyl' : ys'.length = zs.length := hp.length_eq
      have hsr : rw2 ys' = srt (wds c (L + 1)) := by
        rw [← hZ]
        exact sorted_srt (by rw [hZ]; exact wds_nodup hc (by omega)) (hp.map _) (List.pairwise_map.2 hs)
      have hND3 : (lb1 (ys ++ ys')).Nodup := (((hp.append_left ys).map Prod.fst).nodup_iff).2 hND2
      obtain ⟨y2, hy2⟩ : ∃ y : List (Nat × List Int), ys' = y := ⟨_, rfl⟩
      subst hy2
      have hsz : (ys.length + ys'.length) * 24 ≤ 140737488355328 := by omega
      refine wW ?_
      refine wE ?_; clear hK K
      refine Run.reK hpin [0, 1, 2, 6, 7, 8, 10, 12, 18] [0, 1, 2] (by decide) (by simp) ?_; simp only [AR, AW7, simprocAttr]
      refine Run.R ?_
      refine Run.R ?_
      refine Run.RW ?_
      refine Run.reK hpin [0, 1, 2, 6, 7, 8, 9, 10] [0, 1] (by decide) (by simp) ?_; simp only [AR, AW7, simprocAttr]
      rw [← hN2]
      refine Run.le ?_ (ihO (L + 1, ys ++ ys') ⟨by simp only []; omega, by rw [rw2_app, hE, hsr]; rfl, hND3⟩ (by simp only []; omega))
      exact Le.sub (by first | rfl | simp) (by simp only [AW7, simprocAttr]; try simp)
    intro h5
    have h5 : k < nx.length := by rw [decide_eq_true_eq] at h5; omega
    have hxm : nx.getD k [] ∈ nx := by rw [List.getD_eq_getElem?_getD, List.getElem?_eq_getElem h5]; exact List.getElem_mem _
    have hxf := (hsp2 _).1 hxm
    have hst := map_snoc (nfL c 31) nx [] k h5
    have hgk := getD_key nx k [0, 0, 0, 0] h5
    generalize nx.getD k [] = x at *
    have hxl := hxf.1
    have hk4 : (key4 x).take c.length = x := by rw [← hxl]; exact key4_take (by omega)
    obtain ⟨n1, _, _⟩ := nfL_far hc 31 (L + 1) hxf (by omega)
    have hcn := c_impl_normal c x (L + 1) hc hxf (by omega)
    have hzb : (zs.length + 1) * 24 ≤ 140737488355328 := by omega
    generalize nfL c 31 x = y at hst n1 hcn
    refine Run.nq ?_; refine Run.regionW hC (fun K hK => ?_); refine wW ?_
    rw [wst_arr]
    refine wW ?_
    refine wE ?_; clear hK K
    rw [hgk]
    refine Run.nq ?_; refine Run.regionW hC (fun K hK => ?_); refine wW ?_
    refine FunA.callW hP hT (c_impl_list (key4 x) c.length rfl hn) (by simp only [AW7, simprocAttr]; rfl) ?_
    rintro rs o ⟨rfl, rfl⟩
    rw [hk4]
    refine wW ?_
    refine FunA.cW hP hT (hcn) ?_
    rintro rs o ⟨rfl, rfl⟩
    refine wW ?_
    intro l2 hl2
    refine wW ?_
    refine wE ?_; clear hK K
    refine Run.RW ?_
    refine Run.reK hpin [0, 1, 2, 6, 7, 8, 10, 12, 18, 86, 87, 88] [0, 1, 2] (by decide) (by simp) ?_; simp only [AR, AW7, simprocAttr]
    refine Run.le ?_ (ih ((k + 1, zs ++ [(l2, y)])) (⟨h5, by rw [rw2_app, hZ]; exact hst, by rw [← List.append_assoc]; exact row_fresh hND2 (fun p hp => (List.mem_append.1 hp).elim (fun hp => hl2 _ (List.mem_cons_self ..) _ _ _ rfl p hp) (fun hp => hl2 _ (List.mem_cons_of_mem _ (List.mem_cons_of_mem _ (List.mem_cons_self ..))) _ _ _ rfl p hp))⟩) (by (try simp only [List.length_append, List.length_cons, List.length_nil]); omega))
    exact Le.sub (by rfl) (by simp only [AW7, simprocAttr]; try simp)
  intro h
  have h : k < (shl c L).length := by rw [decide_eq_true_eq] at h; omega
  have hxm : (shl c L).getD k [] ∈ shl c L := by rw [List.getD_eq_getElem?_getD, List.getElem?_eq_getElem h]; exact List.getElem_mem _
  have hxf := (hsp _).1 hxm
  have hst := fold_take (nxX c) [] (shl c L) [] k h
  rw [hN] at hst
  have hgk := getD_key (shl c L) k [0, 0, 0, 0] h
  generalize (shl c L).getD k [] = x at *
  have hxl := hxf.1
  refine Run.nq ?_; refine Run.regionW hC (fun K hK => ?_); refine wW ?_
  rw [wst_arr]
  refine wW ?_
  refine wE ?_; clear hK K
  rw [hgk]
  refine Run.letgoA 4 14 rfl rfl ?_
  refine Run.R ?_
  refine Run.reK hpin [0, 1, 2, 6, 7, 8, 9, 10, 11, 12, 40, 41, 42, 14, 47, 48] [0, 1, 2, 3] (by decide) (by simp) ?_; simp only [AR, AW7, simprocAttr]
  refine Run.loopI (X := Nat × List (List Int) × List (MK × MV)) (fun z => ⟨109, [(0, true, .v (.sl false (.row false) (c))), (1, true, .v (.int .i64 (60))), (2, true, .v (.int .i64 (200))), (6, true, .v (.nils)), (7, true, .v (.bool (false))), (8, true, .v (.own 0 0)), (9, true, .v (.own 1 0)), (10, true, .v (.int .i64 (((L : Int) + 1)))), (11, true, .v (.own 2 0)), (12, true, .v (.own 3 0)), (40, true, .v (.own 1 0)), (41, true, .v (.int .i64 (((shl c L).length : Nat)))), (42, true, .v (.int .i64 (k))), (14, true, .v (.relt true .vec (key4 x))), (47, true, .v (.int .i64 ((c.length : Nat)))), (48, true, .v (.int .i64 (z.1)))], [.arr .lrow (ys) 0 true, .arr .vec ((shl c L).map key4) 0 true, .mp ⟨true, false⟩ z.2.2 0, .arr .vec (z.2.1.map key4) 0 true]⟩) (fun z => (z.1 ≤ c.length ∧ z.2.1.length ≤ 4 * k + z.1) ∧ Mk c.length z.2.1 z.2.2 ∧ (List.range z.1).foldl (nxI c x) nx = z.2.1) (fun z => c.length - z.1) ((0, nx, l)) (⟨⟨Nat.zero_le _, by simp only []; omega⟩, hM, rfl⟩) ?_ ?_
  · exact Le.sub (by first | rfl | simp) (by simp only [AW7, simprocAttr, hX]; try simp <;> try (first | rfl | exact ⟨rfl, rfl⟩ | exact ⟨rfl, rfl, rfl⟩))
  rintro ⟨i, nz, m⟩ ⟨⟨hi, hzl⟩, hM2, hN2⟩ ihJ
  try simp only []
  simp only [] at hi hzl hM2 hN2
  refine Run.R ?_
  refine Run.nq ?_; refine Run.cW ?_ ?_
  rotate_left
  · intro h2
    have h2 : i = c.length := by rw [decide_eq_false_iff_not] at h2; omega
    subst h2
    have hN3 : nxX c nx x = nz := hN2
    rw [hN3] at hst
    refine Run.exit rfl ?_; refine Run.nq ?_
    refine Run.RW ?_
    refine Run.reK hpin [0, 1, 2, 6, 7, 8, 9, 10, 11, 12, 40, 41, 42] [0, 1, 2, 3] (by decide) (by simp) ?_; simp only [AR, AW7, simprocAttr]
    refine Run.le ?_ (ihK ((k + 1, nz, m)) (⟨⟨h, by simp only []; omega⟩, hM2, hst⟩) (by (try simp only [List.length_append, List.length_cons, List.length_nil]); omega))
    exact Le.sub (by rfl) (by simp only [AW7, simprocAttr]; try simp)
  intro h2
  have h2 : i < c.length := by rw [decide_eq_true_eq] at h2; omega
  have hr := range_fold (nxI c x) nx i
  rw [hN2] at hr
  have hgi := key4_get x i (by omega)
  refine Run.R ?_
  refine Run.R ?_
  rw [hgi]
  refine Run.nq ?_; refine Run.cW ?_ ?_
  · intro h3
    have h3 : x.getD i 0 < 0 := by rw [decide_eq_true_eq] at h3; exact h3
    have e : nxI c x nz i = nz := by unfold nxI; rw [if_pos h3]
    rw [e] at hr
    refine Run.exit rfl ?_; refine Run.nq ?_
    refine Run.RW ?_
    refine Run.le ?_ (ihJ ((i + 1, nz, m)) (⟨⟨h2, by simp only []; omega⟩, hM2, hr⟩) (by (try simp only [List.length_append, List.length_cons, List.length_nil]); omega))
    exact Le.sub (by rfl) (by simp only [AW7, simprocAttr]; try simp)
  intro h3
  have h3 : ¬ x.getD i 0 < 0 := by rw [decide_eq_false_iff_not] at h3; exact h3
  have e : nxI c x nz i = addN nz (reflL c i x) := by unfold nxI; rw [if_neg h3]
  rw [e] at hr
  have hup : Far c (L + 1) (reflL c i x) := hxf.up hc ⟨by omega, by omega⟩ (by rw [Int.toNat_natCast]; have := hxf.nz hc i h2; omega)
  have hB : Bd 9223372036854775807 (reflL c i x) := (far_bd24 hF hup).mono (by decide)
  have hvl := hup.1
  have hk4 : (key4 x).take c.length = x := by rw [← hxl]; exact key4_take (by omega)
  refine Run.nq ?_; refine Run.regionW hC (fun K hK => ?_); refine wW ?_
  refine FunA.cW hP hT (c_impl_list (key4 x) c.length rfl hn) ?_
  rintro rs o ⟨rfl, rfl⟩
  rw [hk4]
  refine wW ?_
  refine wE ?_; clear hK K
  refine Run.nq ?_; refine Run.regionW hC (fun K hK => ?_); refine wW ?_
  refine FunM.call hP hT (c_impl_reflected c i x hc hxl ⟨by omega, by omega⟩ hB) 4 0 (by simp only [AW7, simprocAttr]; rfl) (by simp) rfl (by simp only [AW7, simprocAttr]; try simp) ?_
  rintro rs o' obs' ⟨rfl, ho⟩
  injection ho with ho1 ho2; subst ho1 ho2
  refine wW ?_
  refine wE ?_; clear hK K
  refine Run.nq ?_; refine Run.regionW hC (fun K hK => ?_); refine wW ?_
  refine FunA.cW hP hT (c_impl_vectorOf (reflL c i x) (by omega) (by omega)) ?_
  rintro rs o ⟨rfl, rfl⟩
  refine wW ?_
  rw [wst_arr]
  refine wW ?_
  refine wE ?_; clear hK K
  refine Run.letgoA 5 17 rfl rfl ?_
  refine Run.R ?_
  rw [hM2.1 _ hvl]
  refine Run.nq ?_; refine Run.cW ?_ ?_
  · intro h4
    have h4 : ¬ reflL c i x ∈ nz := by simpa using h4
    have e2 : addN nz (reflL c i x) = nz ++ [reflL c i x] := by unfold addN; rw [if_neg h4]
    have hnm2 : (nz.map key4).length = nz.length := List.length_map ..
    have hzb : ((nz.map key4).length + [key4 (reflL c i x)].length) * 32 ≤ 140737488355328 := by
      rw [hnm2]; simp only [List.length_cons, List.length_nil]; omega
    rw [e2] at hr
    refine Run.R ?_
    refine Run.R ?_
    refine Run.RW ?_
    refine Run.reK hpin [0, 1, 2, 6, 7, 8, 9, 10, 11, 12, 40, 41, 42, 14, 47, 48] [0, 1, 2, 3] (by decide) (by simp) ?_; simp only [AR, AW7, simprocAttr]
    refine Run.le ?_ (ihJ ((i + 1, nz ++ [reflL c i x], mput m (.vec (key4 (reflL c i x))) (.bool true))) (⟨⟨h2, by simp only [List.length_append, List.length_cons, List.length_nil]; omega⟩, hM2.put hn hvl, hr⟩) (by (try simp only [List.length_append, List.length_cons, List.length_nil]); omega))
    exact Le.sub (by first | rfl | (simp only [List.map_append, List.map_cons, List.map_nil]; done) | (rw [List.map_append, List.map_cons, List.map_nil]; rfl)) (by simp only [AW7, simprocAttr]; try simp)
  · intro h4
    have h4 : reflL c i x ∈ nz := by simpa using h4
    have e2 : addN nz (reflL c i x) = nz := by unfold addN; rw [if_pos h4]
    rw [e2] at hr
    refine Run.RW ?_
    refine Run.reK hpin [0, 1, 2, 6, 7, 8, 9, 10, 11, 12, 40, 41, 42, 14, 47, 48] [0, 1, 2, 3] (by decide) (by simp) ?_; simp only [AR, AW7, simprocAttr]
    refine Run.le ?_ (ihJ ((i + 1, nz, m)) (⟨⟨h2, by simp only []; omega⟩, hM2, hr⟩) (by (try simp only [List.length_append, List.length_cons, List.length_nil]); omega))
    exact Le.sub (by rfl) (by simp only [AW7, simprocAttr]; try simp)
end Go.Proofs.YtaghdbbcadhjdaaGreatDoor
namespace Go.Proofs.YtaghdbbcadhjdaaGreatDoor
open Go Go.Aw
def fmtD (w : List Int) : List UInt8 := w.map fun i => UInt8.ofNat (49 + i.toNat)
def fmtW (w : List Int) : List UInt8 := if w = [] then [101] else fmtD w
theorem fmtW_inj {a b : List Int} (ha : letters 4 a) (hb : letters 4 b) (h : fmtW a = fmtW b) : a = b := by
  have key : ∀ (a b : List Int), letters 4 a → letters 4 b → fmtD a = fmtD b → a = b := by
    intro a
    induction a with
    | nil => intro b _ _ h; cases b with
      | nil => rfl
      | cons y b => simp [fmtD] at h
    | cons x a ih => intro b ha hb h; cases b with
      | nil => simp [fmtD] at h
      | cons y b =>
        simp only [fmtD, List.map_cons, List.cons.injEq] at h
        obtain ⟨hx, ha⟩ := letters_cons.1 ha
        obtain ⟨hy, hb⟩ := letters_cons.1 hb
        have e : x = y := by
          have := congrArg UInt8.toNat h.1
          simp at this
          omega
        rw [e, ih b ha hb h.2]
  have he : ∀ c : List Int, letters 4 c → c ≠ [] → fmtD c ≠ [101] := by
    intro c hc hne h
    cases c with
    | nil => exact hne rfl
    | cons x c =>
      simp only [fmtD, List.map_cons, List.cons.injEq] at h
      obtain ⟨hx, _⟩ := letters_cons.1 hc
      have := congrArg UInt8.toNat h.1
      simp at this
      omega
  unfold fmtW at h
  by_cases h1 : a = []
  · rw [if_pos h1] at h
    by_cases h2 : b = []
    · rw [h1, h2]
    · rw [if_neg h2] at h; exact (he b hb h2 h.symm).elim
  · rw [if_neg h1] at h
    by_cases h2 : b = []
    · rw [if_pos h2] at h; exact (he a ha h1 h).elim
    · rw [if_neg h2] at h; exact key a b ha hb h
theorem c_impl_FormatWord (w : List Int) (hw : letters 4 w) (hl : w.length ≤ 1048576) : FunA B 37 [.sl false .int w] (fun rs o => rs = [.str (fmtW w)] ∧ o = []) := by
  refine FunA.walk B_ok (fn := Tryz.f37) (fun vs w => Tryz.call37 vs w) Tryz.func37 rfl (by rw [Tryz.ntmps37]; simp) (fun C hC hP hT hΓ hbt hfn hpin hfin => ?_); have hX := BX; rw [← hΓ, ← hbt.1, ← hbt.2.1, ← hbt.2.2.1] at hX; rw [hT] at hX; rw [Tryz.ntmps37]; simp only [AW7, simprocAttr, hX]
  refine Run.R ?_
  refine Run.R ?_
  refine Run.nq ?_; refine Run.cW ?_ ?_
  · intro h
    have h : w = [] := by cases w with
      | nil => rfl
      | cons x w => simp at h; omega
    refine Run.R ?_
    refine Run.rW [2] (hfin _ _ rfl rfl ?_)
    exact ⟨by simp [fmtW, h], rfl⟩
  intro h
  have hne : w ≠ [] := by rintro rfl; simp at h
  refine Run.R ?_
  refine Run.R ?_
  refine Run.reK hpin [0, 3, 10, 11, 12] [0] (by decide) (by simp) ?_; simp only [AR, AW7, simprocAttr]
  refine Run.loopI (X := Nat) (fun i => ⟨31, [(0, true, .v (.sl false .int (w))), (3, true, .v (.own 0 0)), (10, true, .v (.sl false .int (w))), (11, true, .v (.int .i64 (w.length))), (12, true, .v (.int .i64 (i)))], [.arr .byte ((w.take i).map fun x => 49 + x) 0 true]⟩) (fun i => i ≤ w.length) (fun i => w.length - i) (0) (Nat.zero_le _) ?_ ?_
  · exact Le.sub (by first | rfl | simp) (by simp only [AW7, simprocAttr, hX]; try simp <;> try (first | rfl | exact ⟨rfl, rfl⟩ | exact ⟨rfl, rfl, rfl⟩))
  rintro i hi ih
  try simp only []
  refine Run.R ?_
  refine Run.nq ?_; refine Run.cW ?_ ?_
  rotate_left
  · intro h
    have h : i = w.length := by rw [decide_eq_false_iff_not] at h; omega
    refine Run.exit rfl ?_; refine Run.nq ?_
    refine Run.R ?_
    refine Run.reK hpin [2] [] (by decide) (by simp) ?_; simp only [AR, AW7, simprocAttr]
    refine Run.rW [2] (hfin _ _ rfl rfl ?_)
    rw [h, List.take_length]
    refine ⟨?_, rfl⟩
    unfold fmtW
    rw [if_neg hne]
    have e : bytesOf (w.map fun x => 49 + x) = fmtD w := by
      unfold bytesOf fmtD
      rw [List.map_map]
      apply List.map_congr_left
      intro x hx
      have := hw x hx
      show UInt8.ofNat (49 + x).toNat = UInt8.ofNat (49 + x.toNat)
      congr 1
      omega
    rw [e]
  intro h
  have h : i < w.length := by rw [decide_eq_true_eq] at h; omega
  have hlt := letters_getD.1 hw i h
  refine Run.R ?_
  refine Run.R ?_
  refine Run.nq ?_; refine Run.cW ?_ ?_
  · intro h2
    exfalso
    rw [decide_eq_false (by omega : ¬ w.getD i 0 < 0), decide_eq_false (by omega : ¬ 4 ≤ w.getD i 0)] at h2
    cases h2
  intro _
  have e1 : IntKind.u8.wrap (49 + w.getD i 0) = 49 + w.getD i 0 := by
    have : 0 ≤ w.getD i 0 ∧ w.getD i 0 < 4 := by omega
    revert this
    generalize w.getD i 0 = z
    intro this
    simp [IntKind.wrap, IntKind.bits, IntKind.signed]; omega
  have hts : (w.take (i + 1)).map (fun x => 49 + x) = (w.take i).map (fun x => 49 + x) ++ [49 + w.getD i 0] := by
    rw [List.take_succ_eq_append_getElem h, List.map_append, getD_eq h]; rfl
  have htl : ((w.take i).map (fun x => 49 + x)).length ≤ i := by simp; omega
  refine Run.RW ?_
  rw [e1]
  refine Run.reK hpin [0, 3, 10, 11, 12] [0] (by decide) (by simp) ?_; simp only [AR, AW7, simprocAttr]
  refine Run.RW ?_
  refine Run.le ?_ (ih (i + 1) (by omega) (by (try simp only [List.length_append, List.length_cons, List.length_nil]); omega))
  exact Le.sub (by first | rfl | (simp only [hts]; done) | (rw [hts]; rfl)) (by simp only [AW7, simprocAttr]; try simp)
end Go.Proofs.YtaghdbbcadhjdaaGreatDoor

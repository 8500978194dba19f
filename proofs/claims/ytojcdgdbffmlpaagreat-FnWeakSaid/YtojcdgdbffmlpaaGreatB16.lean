/- Roots under words, and the root of a reflection: what the functions of both sides do. -/
import Derived.Test.YtojcdgdbffmlpaaGreatB15
import Derived.Test.YtojcdgdbffmlpaaGreatB13
import Derived.Test.YtojcdgdbffmlpaaGreatB14
set_option linter.unusedVariables false
set_option linter.unusedSimpArgs false
namespace Go.Proofs.YtojcdgdbffmlpaaGreat
open Go Go.Aw Go.Cox
def actR (c : List (List Int)) (w r : List Int) : List Int := w.foldr (mirL c) r
theorem actR_len (c : List (List Int)) (r : List Int) : ∀ w, (actR c w r).length = r.length
  | [] => rfl
  | i :: w => by show (mirL c i (actR c w r)).length = _; rw [mir_len, actR_len c r w]
theorem actR_drop (c : List (List Int)) (w r : List Int) (j : Nat) (h : j < w.length) : actR c (w.drop j) r = mirL c (w.getD j 0) (actR c (w.drop (j + 1)) r) := by
  have e : w.drop j = w.getD j 0 :: w.drop (j + 1) := by rw [List.drop_eq_getElem_cons h]; simp [h]
  rw [e]; rfl
theorem actR_bnd {c : List (List Int)} (hc : CartanP c) {r : List Int} (hl : r.length = c.length) {M : Int} (hM : 0 ≤ M) (hr : Bnd M r) : ∀ w, letters c.length w → Bnd (13 ^ w.length * M) (actR c w r)
  | [], _ => by simpa [actR] using hr
  | i :: w, hw => by
    obtain ⟨h1, h2⟩ := letters_cons.1 hw
    have ih := actR_bnd hc hl hM hr w h2
    have h3 := mir_bnd hc h1 (by rw [actR_len]; exact hl) (Int.mul_nonneg (Int.pow_nonneg (by decide)) hM) ih
    show Bnd _ (mirL c i (actR c w r))
    rw [List.length_cons, Int.pow_succ, Int.mul_comm (13 ^ w.length) 13, Int.mul_assoc]
    exact h3
theorem pow13_le {a b : Nat} (h : a ≤ b) : (13 : Int) ^ a ≤ 13 ^ b := by
  induction b with
  | zero => have : a = 0 := by omega
            subst this; exact Int.le_refl _
  | succ b ih =>
    by_cases hab : a = b + 1
    · subst hab; exact Int.le_refl _
    · have := ih (by omega)
      have h0 : (0 : Int) ≤ 13 ^ b := Int.pow_nonneg (by decide)
      rw [Int.pow_succ]; omega
theorem simL_bnd (n i : Nat) : Bnd 1 (simL n i) := by
  intro x hx
  unfold simL at hx
  rcases List.mem_or_eq_of_mem_set hx with h | h
  · have := List.eq_of_mem_replicate h; omega
  · omega
theorem actR_small {c : List (List Int)} (hc : CartanP c) {w : List Int} (hw : letters c.length w) (hl : w.length ≤ 15) (i : Nat) : Bnd 100000000000000000 (actR c w (simL c.length i)) := by
  have h := actR_bnd hc (simL_len c.length i) (by decide) (simL_bnd c.length i) w hw
  have h2 := pow13_le hl
  intro x hx
  have := h x hx
  have e : (13 : Int) ^ 15 = 51185893014090757 := by decide
  omega
theorem c_spec_ActOnRoot (c : List (List Int)) (w r : List Int) (hW : WordP c w) (hl : r.length = c.length) (hB : ∀ j, Bnd 100000000000000000 (actR c (w.drop j) r)) :
    FunA B 56 [.sl false (.row false) c, .sl false .int w, .sl false .int r] (fun rs o => rs = [.own 0 0] ∧ o = [.arr .int (actR c w r) 0 true]) := by
  have hc := hW.1
  have hn := hc.2.1
  have hwl := hW.2.1
  have hwb : wordB c w = true := wordB_iff.2 hW
  refine FunA.walk B_ok (fn := Tryz.f56) (fun vs w => Tryz.call56 vs w) Tryz.func56 rfl (by rw [Tryz.ntmps56]; simp) (fun C hC hP hT hΓ hbt hfn hpin hfin => ?_); have hX := BX; rw [← hΓ, ← hbt.1, ← hbt.2] at hX; rw [Tryz.ntmps56]; simp only [AW7, simprocAttr, hX]
  refine Run.R ?_
  refine Run.R ?_
  refine Run.RW ?_
  refine Run.reK hpin [0, 1, 2, 7, 8] [0] (by decide) (by simp) ?_; simp only [AR, AW7, simprocAttr]
  have hd0 : actR c (w.drop w.length) r = r := by rw [List.drop_length]; rfl
  refine Run.le (Le.sub (fr' := [(0, true, .v (.sl false (.row false) c)), (1, true, .v (.sl false .int w)), (2, true, .v (.sl false .int r)), (7, true, .v (.own 0 0)), (8, true, .v (.int .i64 ((w.length : Int) - 1)))]) (obs' := [.arr .int (actR c (w.drop w.length) r) 0 true]) (by rw [hd0]) (by simp only [AW7, simprocAttr]; try simp)) ?_
  refine Run.loopI (X := Nat) (fun j => ⟨39, [(0, true, .v (.sl false (.row false) (c))), (1, true, .v (.sl false .int (w))), (2, true, .v (.sl false .int (r))), (7, true, .v (.own 0 0)), (8, true, .v (.int .i64 (((j : Int) - 1))))], [.arr .int ((actR c (w.drop j) r)) 0 true]⟩) (fun j => j ≤ w.length) (fun j => j) (w.length) (Nat.le_refl _) ?_ ?_
  · exact Le.sub (by first | rfl | simp) (by simp only [AW7, simprocAttr, hX]; try simp <;> try (first | rfl | exact ⟨rfl, rfl⟩ | exact ⟨rfl, rfl, rfl⟩))
  rintro j hj ih
  try simp only []
  have hal := actR_len c r (w.drop j)
  cases j with
  | zero =>
    have e1 : decide ((0 : Int) ≤ ((0 : Nat) : Int) - 1) = false := by decide
    refine Run.nq ?_; refine Run.regionW hC (fun K hK => ?_); refine wW ?_
    try simp only [e1]
    refine .inl (CallG.off (.bool false) ?_)
    refine wW ?_
    refine wE ?_; clear hK K
    refine Run.nq ?_; refine Run.cW ?_ ?_
    · intro h; cases h
    intro _
    refine Run.exit rfl ?_; refine Run.nq ?_
    refine Run.R ?_
    refine Run.reK hpin [6] [0] (by decide) (by simp) ?_; simp only [AR, AW7, simprocAttr]
    refine Run.rW [6] (hfin _ _ rfl rfl ?_)
    exact ⟨rfl, by rw [List.drop_zero]⟩
  | succ j =>
    have e1 : decide ((0 : Int) ≤ ((j + 1 : Nat) : Int) - 1) = true := by rw [decide_eq_true_eq]; omega
    have e2 : ((j + 1 : Nat) : Int) - 1 = j := by omega
    refine Run.nq ?_; refine Run.regionW hC (fun K hK => ?_); refine wW ?_
    simp only [e1]
    refine .inr ⟨rfl, ?_⟩
    refine FunA.cW hP hT (c_spec_IsWord c w (by omega)) ?_
    rintro rs o ⟨rfl, rfl⟩
    simp only [hwb]
    refine wW ?_
    refine wE ?_; clear hK K
    refine Run.nq ?_; refine Run.cW ?_ ?_
    rotate_left
    · intro h; simp [hl] at h
    intro _
    rw [e2]
    have hlet := letters_getD.1 hW.2.2 j (by omega)
    have hdr := actR_drop c w r j (by omega)
    refine Run.nq ?_; refine Run.regionW hC (fun K hK => ?_); refine wW ?_
    refine FunA.cW hP hT (c_spec_l7Reflect c (w.getD j 0) (actR c (w.drop (j + 1)) r) hc hlet (by omega) (hB (j + 1))) ?_
    rintro rs o ⟨rfl, rfl⟩
    refine wW ?_
    refine wE ?_; clear hK K
    rw [← hdr]
    refine Run.RW ?_
    refine Run.reK hpin [0, 1, 2, 7, 8] [1] (by decide) (by simp) ?_; simp only [AR, AW7, simprocAttr]
    refine Run.le ?_ (ih (j) (by omega) (by (try simp only [List.length_append, List.length_cons, List.length_nil]); omega))
    exact Le.sub (by rfl) (by simp only [AW7, simprocAttr]; try simp)
def sq (c : List (List Int)) (w : List Int) (k : Nat) : List Int := actR c (w.take k) (simL c.length (w.getD k 0).toNat)
def seqL (c : List (List Int)) (w : List Int) : List (List Int) := (List.range w.length).map (sq c w)
theorem sq_len (c : List (List Int)) (w : List Int) (k : Nat) : (sq c w k).length = c.length := by unfold sq; rw [actR_len, simL_len]
theorem seq_small {c : List (List Int)} {w : List Int} (hW : WordP c w) (k i : Nat) (j : Nat) : Bnd 100000000000000000 (actR c ((w.take k).drop j) (simL c.length i)) :=
  actR_small hW.1 (letters_drop (letters_take hW.2.2 k) j) (by have := hW.2.1; simp; omega) i
theorem word_take {c : List (List Int)} {w : List Int} (hW : WordP c w) (k : Nat) : WordP c (w.take k) := ⟨hW.1, by have := hW.2.1; simp; omega, letters_take hW.2.2 k⟩
theorem range_snoc {α : Type} (f : Nat → α) (k : Nat) : (List.range k).map f ++ [f k] = (List.range (k + 1)).map f := by simp [List.range_succ]
end Go.Proofs.YtojcdgdbffmlpaaGreat
namespace Go.Cox
variable {A B : Mat} {n : Nat}
def SameB (A B : Mat) (n : Nat) : Prop := ∀ i j, i < n → j < n → bond A i j = bond B i j
theorem SameB.symm (h : SameB A B n) : SameB B A n := fun i j hi hj => (h i j hi hj).symm
theorem Br.to (h : SameB A B n) {a b : List Nat} (k : Br A n a b) : Br B n a b := by
  induction k with
  | refl w => exact .refl w
  | trans _ _ h k => exact .trans h k
  | cons i _ h => exact .cons i h
  | braid i j t hi hj hij hb =>
    rw [h i j hi hj] at hb ⊢
    exact .braid i j t hi hj hij hb
theorem back2 (hA : Cartan A n) (hB : Cartan B n) (hS : SameB A B n) {u : Vec} (hu : ∀ i, i < n → 0 < u i) : ∀ (w : List Nat), (∀ i ∈ w, i < n) → ∃ t, Play A n (act A w u) t u ∧ t.length ≤ w.length ∧ (∀ x, act A t x = act A w x) ∧ ∀ x, act B t x = act B w x
  | [], _ => ⟨[], .nil _, Nat.le_refl _, fun _ => rfl, fun _ => rfl⟩
  | i :: w, h => by
    have hi := h i (List.mem_cons_self ..)
    obtain ⟨t, hp, hl, he, he'⟩ := back2 hA hB hS hu w (fun k hk => h k (List.mem_cons_of_mem _ hk))
    have hnz := nonzero hA _ rfl hp hu i hi
    rw [act_cons]
    rcases Int.lt_or_gt_of_ne hnz with hneg | hpos
    · obtain ⟨s, hs, hbr⟩ := conv hA _ rfl hp (fun i hi => Int.le_of_lt (hu i hi)) (.cons hi hneg (.nil _))
      have hlen := hbr.length
      simp at hlen
      refine ⟨s, hs, by simp; omega, fun x => ?_, fun x => ?_⟩
      · rw [act_cons, ← he, act_br hA hbr hp.mem]
        simp only [List.cons_append, List.nil_append, act_cons]
        rw [refl_refl (hA.diag i hi)]
      · rw [act_cons, ← he', act_br hB (hbr.to hS) hp.mem]
        simp only [List.cons_append, List.nil_append, act_cons]
        rw [refl_refl (hB.diag i hi)]
    · refine ⟨i :: t, .cons hi (by rw [refl_self (hA.diag i hi)]; omega) (by rw [refl_refl (hA.diag i hi)]; exact hp), by simp; omega, fun x => ?_, fun x => ?_⟩
      · rw [act_cons, act_cons, he]
      · rw [act_cons, act_cons, he']
theorem play_le2 (hA : Cartan A n) (hB : Cartan B n) (hS : SameB A B n) {u u' : Vec} (hu : ∀ i, i < n → 0 < u i) (hu' : ∀ i, i < n → 0 < u' i) {w t t' : List Nat} (hw : ∀ i ∈ w, i < n) (h : Play A n (act A w u) t u) (h' : Play B n (act B w u') t' u') : t'.length ≤ t.length := by
  obtain ⟨s, hs, _, _, es⟩ := back2 hA hB hS hu w hw
  obtain ⟨s', hs', hl, _, _⟩ := back hB hu' s hs.mem
  rw [es] at hs'
  obtain ⟨r, _, hb⟩ := conv hA _ rfl hs (fun i hi => Int.le_of_lt (hu i hi)) h
  obtain ⟨r', _, hb'⟩ := conv hA _ rfl h (fun i hi => Int.le_of_lt (hu i hi)) hs
  obtain ⟨q, _, hq⟩ := conv hB _ rfl hs' (fun i hi => Int.le_of_lt (hu' i hi)) h'
  have h1 := hb.length
  have h2 := hq.length
  have h3 := hb'.length
  simp at h1 h2 h3
  omega
theorem play_len2 (hA : Cartan A n) (hB : Cartan B n) (hS : SameB A B n) {u u' : Vec} (hu : ∀ i, i < n → 0 < u i) (hu' : ∀ i, i < n → 0 < u' i) {w t t' : List Nat} (hw : ∀ i ∈ w, i < n) (h : Play A n (act A w u) t u) (h' : Play B n (act B w u') t' u') : t.length = t'.length :=
  Nat.le_antisymm (play_le2 hB hA hS.symm hu' hu hw h' h) (play_le2 hA hB hS hu hu' hw h h')
theorem sign2 (hA : Cartan A n) (hB : Cartan B n) (hS : SameB A B n) {u u' : Vec} (hu : ∀ i, i < n → 0 < u i) (hu' : ∀ i, i < n → 0 < u' i) {w : List Nat} (hw : ∀ i ∈ w, i < n) {j : Nat} (hj : j < n) (h : act A w u j < 0) : act B w u' j < 0 := by
  obtain ⟨t, ht, _, _, _⟩ := back hA hu w hw
  obtain ⟨t', ht', _, _, _⟩ := back hB hu' w hw
  have hnz := nonzero hB _ rfl ht' hu' j hj
  refine Classical.byContradiction fun hn => ?_
  have hpos : 0 < act B w u' j := by omega
  have e := play_len2 hA hB hS hu hu' hw ht ht'
  have hjw : ∀ i ∈ j :: w, i < n := fun i hi => by rcases List.mem_cons.1 hi with rfl | hi; exact hj; exact hw i hi
  obtain ⟨r, hr, hb⟩ := conv hA _ rfl ht (fun i hi => Int.le_of_lt (hu i hi)) (.cons hj h (.nil _))
  have h1 : Play B n (act B (j :: w) u') (j :: t') u' := .cons hj (by rw [act_cons, refl_self (hB.diag j hj)]; omega) (by rw [act_cons, refl_refl (hB.diag j hj)]; exact ht')
  have := play_len2 hA hB hS hu hu' hjw hr h1
  have h2 := hb.length
  simp at h2 this
  omega
theorem faithful2 (hA : Cartan A n) (hB : Cartan B n) (hS : SameB A B n) {u : Vec} (hu : ∀ i, i < n → 0 < u i) {a b : List Nat} (ha : ∀ i ∈ a, i < n) (hb : ∀ i ∈ b, i < n) (h : act A a u = act A b u) (x : Vec) : act B a x = act B b x := by
  obtain ⟨s, hs, _, _, es⟩ := back2 hA hB hS hu a ha
  obtain ⟨t, ht, _, _, et⟩ := back2 hA hB hS hu b hb
  rw [h] at hs
  obtain ⟨r, hr, hbr⟩ := conv hA _ rfl hs (fun i hi => Int.le_of_lt (hu i hi)) ht
  have hr0 : r = [] := by
    cases hr with
    | nil => rfl
    | cons hi hv _ => exact absurd (hu _ hi) (by omega)
  subst hr0
  rw [← es, ← et, act_br hB (hbr.to hS) hs.mem, List.append_nil]
end Go.Cox
namespace Go.Proofs.YtojcdgdbffmlpaaGreat
open Go Go.Aw Go.Cox
def trL (c : List (List Int)) : List (List Int) := (List.range c.length).map fun i => (List.range c.length).map fun j => ent c j i
theorem trL_len (c : List (List Int)) : (trL c).length = c.length := by simp [trL]
theorem trL_row (c : List (List Int)) {i : Nat} (hi : i < c.length) : (trL c).getD i [] = (List.range c.length).map fun j => ent c j i := by
  simp [trL, List.getD_eq_getElem?_getD, hi]
theorem trL_ent (c : List (List Int)) {i j : Nat} (hi : i < c.length) (hj : j < c.length) : ent (trL c) i j = ent c j i := by
  unfold ent
  rw [trL_row c hi]
  simp [List.getD_eq_getElem?_getD, hj]
theorem trL_cartan {c : List (List Int)} (hc : CartanP c) : CartanP (trL c) := by
  refine ⟨by rw [trL_len]; exact hc.1, by rw [trL_len]; exact hc.2.1, fun i hi => ?_, fun i j hi hj => ?_⟩
  · rw [trL_len] at hi ⊢; rw [trL_row c hi]; simp
  · rw [trL_len] at hi hj
    have h1 := hc.2.2.2 j i hj hi
    have h2 := hc.2.2.2 i j hi hj
    unfold badE at *
    rw [trL_ent c hi hj, trL_ent c hj hi]
    intro h
    rcases h with ⟨rfl, h⟩ | ⟨h0, h⟩
    · exact h1 (.inl ⟨rfl, h⟩)
    · refine h1 (.inr ⟨Ne.symm h0, ?_⟩)
      rcases h with h | h | h
      · exact .inl h
      · exact .inr (.inl h)
      · exact .inr (.inr h)
theorem tr_same (c : List (List Int)) : SameB (matA c) (matA (trL c)) c.length := fun i j hi hj => by
  unfold bond
  rw [show matA (trL c) i j = matA c j i from trL_ent c hi hj, show matA (trL c) j i = matA c i j from trL_ent c hj hi, Int.mul_comm]
theorem img_nz {c : List (List Int)} (hc : CartanP c) {w : List Int} (hw : letters c.length w) {j : Nat} (hj : j < c.length) : (imageL c w).getD j 0 ≠ 0 := by
  obtain ⟨L, _, _, h⟩ := Far.image hc hw
  exact h.nz hc j hj
theorem img_vec (c : List (List Int)) (w : List Int) (j : Nat) : (imageL c w).getD j 0 = act (matA c) (nat w) (vecL (ones c.length)) j := by
  have := congrFun (vec_act (c := c) (ones_length c.length) w) j
  exact this
theorem img_tr {c : List (List Int)} (hc : CartanP c) {w : List Int} (hw : letters c.length w) {j : Nat} (hj : j < c.length) : (imageL c w).getD j 0 < 0 ↔ (imageL (trL c) w).getD j 0 < 0 := by
  have hA := matA_cartan hc
  have hB := matA_cartan (trL_cartan hc)
  rw [trL_len] at hB
  have hS := tr_same c
  have ho := vec_ones c.length
  have e := img_vec (trL c) w j
  rw [trL_len] at e
  rw [img_vec, e]
  exact ⟨fun h => sign2 hA hB hS ho ho (letters_nat hw) hj h, fun h => sign2 hB hA hS.symm ho ho (letters_nat hw) hj h⟩
theorem dot_set : ∀ (a r : List Int) (i : Nat) (x : Int), i < a.length → i < r.length → dotL a (r.set i x) = dotL a r + a.getD i 0 * (x - r.getD i 0)
  | y :: a, z :: r, 0, x, _, _ => by simp [dotL]; grind
  | y :: a, z :: r, i + 1, x, h1, h2 => by
    have := dot_set a r i x (by simpa using h1) (by simpa using h2)
    simp [dotL] at this ⊢
    omega
theorem dot_lin (u v a r : List Int) (m : Int) (h1 : u.length = r.length) (h2 : v.length = r.length) (h3 : a.length = r.length) (h : ∀ k, k < r.length → u.getD k 0 = v.getD k 0 - m * a.getD k 0) : dotL u r = dotL v r - m * dotL a r := by
  induction r generalizing u v a with
  | nil =>
    obtain rfl := List.length_eq_zero_iff.1 h1
    obtain rfl := List.length_eq_zero_iff.1 h2
    obtain rfl := List.length_eq_zero_iff.1 h3
    simp [dotL]
  | cons q r ih =>
    match u, v, a, h1, h2, h3, h with
    | x :: u, y :: v, z :: a, h1, h2, h3, h =>
      have ih := ih u v a (by simpa using h1) (by simpa using h2) (by simpa using h3) (fun k hk => by simpa using h (k + 1) (by simpa using hk))
      have h0 := h 0 (by simp)
      simp at h0
      simp only [dotL, ih, h0]
      grind
theorem dot_sim : ∀ (n : Nat) (r : List Int) (k : Nat), r.length = n → k < n → dotL (simL n k) r = r.getD k 0 := by
  have z : ∀ (n : Nat) (r : List Int), dotL (List.replicate n 0) r = 0 := by
    intro n
    induction n with
    | zero => intro r; simp [dotL]
    | succ n ih => intro r; cases r with
      | nil => simp [dotL]
      | cons x r => simp [List.replicate_succ, dotL, ih]
  intro n
  induction n with
  | zero => intro r k _ h; omega
  | succ n ih =>
    intro r k hl hk
    cases r with
    | nil => simp at hl
    | cons x r =>
      cases k with
      | zero => simp [simL, List.replicate_succ, dotL, z]
      | succ k =>
        have := ih r k (by simpa using hl) (by omega)
        simp [simL, List.replicate_succ, dotL] at this ⊢
        exact this
theorem dot_comm : ∀ a b : List Int, dotL a b = dotL b a
  | [], [] => rfl
  | [], _ :: _ => rfl
  | _ :: _, [] => rfl
  | x :: a, y :: b => by simp [dotL, dot_comm a b, Int.mul_comm]
theorem dot_mir {c : List (List Int)} (hc : CartanP c) {i : Int} (hi : 0 ≤ i ∧ i < c.length) {v r : List Int} (hv : v.length = c.length) (hr : r.length = c.length) : dotL (reflL (trL c) i v) r = dotL v (mirL c i r) := by
  have hi2 : i.toNat < c.length := by omega
  unfold mirL
  rw [dot_set v r _ _ (by omega) (by omega)]
  rw [dot_lin (reflL (trL c) i v) v (c.getD i.toNat []) r (v.getD i.toNat 0) (by rw [reflL_length]; omega) (by omega) (by rw [hc.2.2.1 _ hi2, hr]) (fun k hk => by
    rw [reflL_get _ _ _ _ (by omega), trL_ent c (by omega) hi2])]
  grind
theorem dot_act {c : List (List Int)} (hc : CartanP c) {r : List Int} (hr : r.length = c.length) : ∀ (w : List Int), letters c.length w → ∀ {v : List Int}, v.length = c.length → dotL v (actR c w r) = dotL (actL (trL c) w.reverse v) r
  | [], _, v, hv => rfl
  | i :: w, hw, v, hv => by
    obtain ⟨h1, h2⟩ := letters_cons.1 hw
    rw [List.reverse_cons, actL_append]
    show dotL v (mirL c i (actR c w r)) = dotL (actL (trL c) w.reverse (reflL (trL c) i v)) r
    rw [← dot_mir hc h1 hv (by rw [actR_len, hr])]
    exact dot_act hc hr w h2 (by rw [reflL_length, hv])
theorem mir2 {c : List (List Int)} (hc : CartanP c) {i : Int} (hi : 0 ≤ i ∧ i < c.length) {r : List Int} (hr : r.length = c.length) : mirL c i (mirL c i r) = r := by
  have hi2 : i.toNat < c.length := by omega
  have hrow := hc.2.2.1 _ hi2
  have d : (c.getD i.toNat []).getD i.toNat 0 = 2 := (matA_cartan hc).diag i.toNat hi2
  have e1 : (mirL c i r).getD i.toNat 0 = r.getD i.toNat 0 - dotL (c.getD i.toNat []) r := by
    unfold mirL
    rw [List.getD_eq_getElem?_getD, List.getElem?_set_self (by omega)]; rfl
  have e2 : dotL (c.getD i.toNat []) (mirL c i r) = - dotL (c.getD i.toNat []) r := by
    unfold mirL
    rw [dot_set _ _ _ _ (by omega) (by omega), d]; omega
  show (mirL c i r).set i.toNat ((mirL c i r).getD i.toNat 0 - dotL (c.getD i.toNat []) (mirL c i r)) = r
  rw [e1, e2]
  unfold mirL
  rw [List.set_set]
  have e3 : r.getD i.toNat 0 - dotL (c.getD i.toNat []) r - -dotL (c.getD i.toNat []) r = r.getD i.toNat 0 := by omega
  rw [e3, List.getD_eq_getElem?_getD, List.getElem?_eq_getElem (by omega), Option.getD_some, List.set_getElem_self]
theorem actR_append (c : List (List Int)) (a b r : List Int) : actR c (a ++ b) r = actR c a (actR c b r) := by simp [actR, List.foldr_append]
theorem actR_rev {c : List (List Int)} (hc : CartanP c) : ∀ (w : List Int), letters c.length w → ∀ {r : List Int}, r.length = c.length → actR c w.reverse (actR c w r) = r
  | [], _, _, _ => rfl
  | i :: w, h, r, hr => by
    rw [List.reverse_cons, actR_append]
    show actR c w.reverse (mirL c i (mirL c i (actR c w r))) = r
    rw [mir2 hc (h i (List.mem_cons_self ..)) (by rw [actR_len, hr])]
    exact actR_rev hc w (fun j hj => h j (List.mem_cons_of_mem _ hj)) hr
theorem actR_same {c : List (List Int)} (hc : CartanP c) {a b : List Int} (ha : letters c.length a) (hb : letters c.length b) (h : imageL c a = imageL c b) {r : List Int} (hr : r.length = c.length) : actR c a r = actR c b r := by
  have hA := matA_cartan hc
  have hB := matA_cartan (trL_cartan hc)
  rw [trL_len] at hB
  have hr' : imageL c a.reverse = imageL c b.reverse := rev_same hc ha hb h (ones_length _)
  have hw : act (matA c) (nat a.reverse) (vecL (ones c.length)) = act (matA c) (nat b.reverse) (vecL (ones c.length)) := by
    rw [← vec_act (ones_length _), ← vec_act (ones_length _)]
    exact congrArg vecL hr'
  have hf := faithful2 hA hB (tr_same c) (vec_ones c.length) (letters_nat (letters_reverse ha)) (letters_nat (letters_reverse hb)) hw
  have key : ∀ v : List Int, v.length = c.length → actL (trL c) a.reverse v = actL (trL c) b.reverse v := fun v hv => by
    apply vec_inj (by rw [actL_length, actL_length])
    rw [vec_act (by rw [trL_len, hv]), vec_act (by rw [trL_len, hv])]
    exact hf _
  have hla : (actR c a r).length = c.length := by rw [actR_len, hr]
  have hlb : (actR c b r).length = c.length := by rw [actR_len, hr]
  apply vec_inj (by rw [hla, hlb])
  funext k
  show (actR c a r).getD k 0 = (actR c b r).getD k 0
  by_cases hk : k < c.length
  · rw [← dot_sim _ _ k hla hk, ← dot_sim _ _ k hlb hk, dot_act hc hr a ha (simL_len _ _), dot_act hc hr b hb (simL_len _ _), key _ (simL_len _ _)]
  · rw [List.getD_eq_getElem?_getD, List.getD_eq_getElem?_getD, List.getElem?_eq_none (by omega), List.getElem?_eq_none (by omega)]
theorem mir_zero (c : List (List Int)) (i : Int) (n : Nat) : mirL c i (List.replicate n 0) = List.replicate n 0 := by
  have z : ∀ (a : List Int) (n : Nat), dotL a (List.replicate n 0) = 0 := by
    intro a n
    induction n generalizing a with
    | zero => cases a <;> simp [dotL]
    | succ n ih => cases a with
      | nil => simp [dotL]
      | cons x a => simp [List.replicate_succ, dotL, ih]
  unfold mirL
  rw [z]
  have : (List.replicate n (0 : Int)).getD i.toNat 0 = 0 := by
    rw [List.getD_eq_getElem?_getD]
    by_cases h : i.toNat < n <;> simp [h]
  rw [this]
  by_cases h : i.toNat < n
  · apply List.ext_getElem (by simp)
    intro k h1 h2
    rw [List.getElem_set]
    split <;> simp
  · rw [List.set_eq_of_length_le (by simp; omega)]
theorem actR_zero (c : List (List Int)) (n : Nat) : ∀ w, actR c w (List.replicate n 0) = List.replicate n 0
  | [] => rfl
  | i :: w => by show mirL c i (actR c w _) = _; rw [actR_zero c n w, mir_zero]
theorem actR_neg (c : List (List Int)) (r : List Int) : ∀ w, actR c w (negL r) = negL (actR c w r)
  | [] => rfl
  | i :: w => by show mirL c i (actR c w _) = negL (mirL c i (actR c w r)); rw [actR_neg c r w, mir_neg]
theorem mir_sim {c : List (List Int)} (hc : CartanP c) {i : Nat} (hi : i < c.length) : mirL c i (simL c.length i) = negL (simL c.length i) := by
  have d : (c.getD i []).getD i 0 = 2 := (matA_cartan hc).diag i hi
  unfold mirL
  simp only [Int.toNat_natCast]
  rw [dot_comm, dot_sim _ _ i (hc.2.2.1 _ hi) hi, d, simL_get _ _ _ hi, if_pos rfl]
  apply vec_inj (by simp [negL, simL_len])
  funext k
  show ((simL c.length i).set i (1 - 2)).getD k 0 = (negL (simL c.length i)).getD k 0
  rw [negL_get, simL_get _ _ _ hi, List.getD_eq_getElem?_getD, List.getElem?_set]
  by_cases h : i = k
  · subst h; rw [if_pos rfl, if_pos (by rw [simL_len]; exact hi), if_pos rfl]; rfl
  · rw [if_neg h, if_neg (Ne.symm h), ← List.getD_eq_getElem?_getD, simL_get _ _ _ hi, if_neg (Ne.symm h)]; rfl
theorem sgn_pos_iff {r : List Int} : sgnR r = 1 ↔ (∀ k, 0 ≤ r.getD k 0) ∧ ∃ k, 0 < r.getD k 0 := by
  rw [sgnR_one]
  unfold posA negA
  rw [List.any_eq_true, List.any_eq_false]
  constructor
  · rintro ⟨⟨x, hx, h1⟩, h2⟩
    refine ⟨fun k => ?_, ?_⟩
    · by_cases hk : k < r.length
      · have := h2 _ (getD_mem hk)
        simp at this; exact this
      · rw [List.getD_eq_getElem?_getD, List.getElem?_eq_none (by omega)]; simp
    · obtain ⟨k, hk, rfl⟩ := List.getElem_of_mem hx
      exact ⟨k, by rw [List.getD_eq_getElem?_getD, List.getElem?_eq_getElem hk]; simpa using h1⟩
  · rintro ⟨h1, k, h2⟩
    have hk : k < r.length := by
      refine Classical.byContradiction fun hn => ?_
      rw [List.getD_eq_getElem?_getD, List.getElem?_eq_none (by omega)] at h2
      simp at h2
    refine ⟨⟨_, getD_mem hk, by simpa using h2⟩, fun x hx => ?_⟩
    obtain ⟨j, hj, rfl⟩ := List.getElem_of_mem hx
    have := h1 j
    rw [List.getD_eq_getElem?_getD, List.getElem?_eq_getElem hj] at this
    simpa using this
theorem sgn_neg (r : List Int) : sgnR (negL r) = - sgnR r := by
  have h1 : posA (negL r) = negA r := by
    unfold posA negA negL
    rw [List.any_map]; congr 1; funext x; simp
  have h2 : negA (negL r) = posA r := by
    unfold posA negA negL
    rw [List.any_map]; congr 1; funext x; simp
  unfold sgnR
  rw [h1, h2]
  cases posA r <;> cases negA r <;> rfl
theorem root_pos {c : List (List Int)} (hc : CartanP c) {w : List Int} (hw : letters c.length w) {i : Nat} (hi : i < c.length) (h : 0 < (imageL c w.reverse).getD i 0) : sgnR (actR c w (simL c.length i)) = 1 := by
  have hB := matA_cartan (trL_cartan hc)
  rw [trL_len] at hB
  have hwr := letters_reverse hw
  have hT : 0 < (imageL (trL c) w.reverse).getD i 0 := by
    have h1 := img_nz (trL_cartan hc) (w := w.reverse) (by rw [trL_len]; exact hwr) (j := i) (by rw [trL_len]; exact hi)
    have h2 : ¬ (imageL (trL c) w.reverse).getD i 0 < 0 := fun hn => by have := (img_tr hc hwr hi).2 hn; omega
    omega
  have hl : (actR c w (simL c.length i)).length = c.length := by rw [actR_len, simL_len]
  have hco : ∀ k, 0 ≤ (actR c w (simL c.length i)).getD k 0 := fun k => by
    by_cases hk : k < c.length
    · rw [← dot_sim _ _ k hl hk, dot_act hc (simL_len _ _) w hw (simL_len _ _), dot_comm, dot_sim _ _ i (by rw [actL_length, simL_len]) hi]
      have e := congrFun (vec_act (c := trL c) (v := simL c.length k) (by rw [trL_len, simL_len]) w.reverse) i
      have e2 := img_vec (trL c) w.reverse i
      rw [e2, trL_len] at hT
      have e3 : (actL (trL c) w.reverse (simL c.length k)).getD i 0 = act (matA (trL c)) (nat w.reverse) (vecL (simL c.length k)) i := e
      rw [e3]
      refine coh_pos hB (vec_ones c.length) (letters_nat hwr) hi hT (fun j hj => ?_)
      show 0 ≤ (simL c.length k).getD j 0
      rw [simL_get _ _ _ hk]; split <;> omega
    · rw [List.getD_eq_getElem?_getD, List.getElem?_eq_none (by omega)]; simp
  refine sgn_pos_iff.2 ⟨hco, ?_⟩
  refine Classical.byContradiction fun hn => ?_
  have hz : actR c w (simL c.length i) = List.replicate c.length 0 := by
    apply vec_inj (by rw [hl]; simp)
    funext k
    show (actR c w (simL c.length i)).getD k 0 = (List.replicate c.length (0 : Int)).getD k 0
    have h1 := hco k
    have h2 : ¬ 0 < (actR c w (simL c.length i)).getD k 0 := fun h => hn ⟨k, h⟩
    have h3 : (List.replicate c.length (0 : Int)).getD k 0 = 0 := by
      rw [List.getD_eq_getElem?_getD]
      by_cases h : k < c.length <;> simp [h]
    omega
  have h4 := actR_rev hc w hw (r := simL c.length i) (simL_len _ _)
  rw [hz, actR_zero] at h4
  have h5 := congrArg (fun l => l.getD i 0) h4
  simp only [simL_get _ _ _ hi] at h5
  simp [List.getD_eq_getElem?_getD, hi] at h5
theorem root_neg {c : List (List Int)} (hc : CartanP c) {w : List Int} (hw : letters c.length w) {i : Nat} (hi : i < c.length) (h : (imageL c w.reverse).getD i 0 < 0) : sgnR (actR c w (simL c.length i)) = -1 := by
  have hwi : letters c.length (w ++ [(i : Int)]) := letters_append.2 ⟨hw, letters_cons.2 ⟨by omega, letters_nil _⟩⟩
  have h1 : 0 < (imageL c (w ++ [(i : Int)]).reverse).getD i 0 := by
    have := refl_at' hc (i := (i : Int)) (by omega) (v := imageL c w.reverse) (imageL_length _ _)
    rw [List.reverse_append]
    show 0 < (reflL c i (imageL c w.reverse)).getD i 0
    simp only [Int.toNat_natCast] at this
    omega
  have h2 := root_pos hc hwi hi h1
  rw [actR_append] at h2
  have e : actR c [(i : Int)] (simL c.length i) = negL (simL c.length i) := mir_sim hc hi
  rw [e, actR_neg, sgn_neg] at h2
  omega
def Rt (c : List (List Int)) (r : List Int) : Prop := ∃ (w : List Int) (i : Nat), letters c.length w ∧ i < c.length ∧ r = actR c w (simL c.length i)
theorem Rt.len {c : List (List Int)} {r : List Int} (h : Rt c r) : r.length = c.length := by
  obtain ⟨w, i, _, _, rfl⟩ := h; rw [actR_len, simL_len]
theorem Rt.act {c : List (List Int)} {r : List Int} (h : Rt c r) {w : List Int} (hw : letters c.length w) : Rt c (actR c w r) := by
  obtain ⟨p, i, h1, h2, rfl⟩ := h
  exact ⟨w ++ p, i, letters_append.2 ⟨hw, h1⟩, h2, (actR_append _ _ _ _).symm⟩
theorem Rt.mir {c : List (List Int)} {r : List Int} (h : Rt c r) {i : Int} (hi : 0 ≤ i ∧ i < c.length) : Rt c (mirL c i r) := h.act (w := [i]) (letters_cons.2 ⟨hi, letters_nil _⟩)
theorem Rt.sign {c : List (List Int)} (hc : CartanP c) {r : List Int} (h : Rt c r) : sgnR r = 1 ∨ sgnR r = -1 := by
  obtain ⟨w, i, h1, h2, rfl⟩ := h
  have := img_nz hc (letters_reverse h1) h2
  rcases Int.lt_or_gt_of_ne this with h | h
  · exact .inr (root_neg hc h1 h2 h)
  · exact .inl (root_pos hc h1 h2 h)
theorem root_iff {c : List (List Int)} (hc : CartanP c) {w : List Int} (hw : letters c.length w) {i : Nat} (hi : i < c.length) : sgnR (actR c w (simL c.length i)) = -1 ↔ (imageL c w.reverse).getD i 0 < 0 := by
  refine ⟨fun h => ?_, root_neg hc hw hi⟩
  refine Classical.byContradiction fun hn => ?_
  have := img_nz hc (letters_reverse hw) hi
  have := root_pos hc hw hi (by omega)
  omega
def sclL (m : Int) (r : List Int) : List Int := r.map (m * ·)
theorem sclL_get (m : Int) (r : List Int) (k : Nat) : (sclL m r).getD k 0 = m * r.getD k 0 := by
  simp only [sclL, List.getD_eq_getElem?_getD, List.getElem?_map]
  cases r[k]? <;> simp
theorem dot_scl (m : Int) : ∀ a r : List Int, dotL a (sclL m r) = m * dotL a r
  | [], _ => by simp [dotL]
  | _ :: _, [] => by simp [dotL, sclL]
  | x :: a, y :: r => by
    have := dot_scl m a r
    simp only [sclL, List.map_cons, dotL] at this ⊢
    rw [this]; grind
theorem mir_scl (c : List (List Int)) (i m : Int) (r : List Int) : mirL c i (sclL m r) = sclL m (mirL c i r) := by
  unfold mirL
  rw [dot_scl, sclL_get]
  simp only [sclL, List.map_set]
  congr 1
  grind
theorem actR_scl (c : List (List Int)) (m : Int) (r : List Int) : ∀ w, actR c w (sclL m r) = sclL m (actR c w r)
  | [] => rfl
  | i :: w => by show mirL c i (actR c w _) = sclL m (mirL c i (actR c w r)); rw [actR_scl c m r w, mir_scl]
theorem mir_get {c : List (List Int)} {i : Nat} {r : List Int} {k : Nat} (h : k ≠ i) : (mirL c i r).getD k 0 = r.getD k 0 := by
  unfold mirL
  simp only [List.getD_eq_getElem?_getD, Int.toNat_natCast]
  rw [List.getElem?_set_ne (Ne.symm h)]
theorem only_sim {c : List (List Int)} (hc : CartanP c) {r : List Int} (h : Rt c r) {i : Nat} (hi : i < c.length) (h1 : sgnR r = 1) (h2 : sgnR (mirL c i r) = -1) : r = simL c.length i := by
  have hl := h.len
  obtain ⟨p1, _⟩ := sgn_pos_iff.1 h1
  have h3 : sgnR (negL (mirL c i r)) = 1 := by rw [sgn_neg]; omega
  obtain ⟨p2, _⟩ := sgn_pos_iff.1 h3
  have hz : ∀ k, k ≠ i → r.getD k 0 = 0 := fun k hk => by
    have a1 := p1 k
    have a2 := p2 k
    rw [negL_get, mir_get hk] at a2
    omega
  have he : r = sclL (r.getD i 0) (simL c.length i) := by
    apply vec_inj (by simp [sclL, hl, simL_len])
    funext k
    show r.getD k 0 = (sclL (r.getD i 0) (simL c.length i)).getD k 0
    rw [sclL_get, simL_get _ _ _ hi]
    by_cases hk : k = i
    · rw [if_pos hk, hk]; omega
    · rw [if_neg hk, hz k hk]; omega
  obtain ⟨w, j, hw, hj, hr⟩ := h
  have h4 := actR_rev hc w hw (r := simL c.length j) (simL_len _ _)
  rw [← hr, he, actR_scl] at h4
  have h5 := congrArg (fun l => l.getD j 0) h4
  simp only [sclL_get, simL_get _ _ _ hj, if_pos] at h5
  have h0 := p1 i
  generalize hx : (actR c w.reverse (simL c.length i)).getD j 0 = x at h5
  have h6 : r.getD i 0 = 1 := by
    generalize r.getD i 0 = m at h5 h0
    have hm : m ∣ 1 := ⟨x, h5.symm⟩
    have := Int.le_of_dvd (by decide) hm
    have hne : m ≠ 0 := fun h => by rw [h] at h5; simp at h5
    omega
  rw [he, h6]
  simp [sclL]
def InvP (c : List (List Int)) (w r : List Int) : Prop := Rt c r ∧ sgnR r = 1 ∧ sgnR (actR c w.reverse r) = -1
theorem sq_cons (c : List (List Int)) (i : Int) (z : List Int) (k : Nat) : sq c (i :: z) (k + 1) = mirL c i (sq c z k) := by
  unfold sq
  simp only [List.take_succ_cons, List.getD_cons_succ]
  rfl
theorem inv_seq {c : List (List Int)} (hc : CartanP c) : ∀ (z : List Int) {r : List Int}, letters c.length z → InvP c z r → ∃ k, k < z.length ∧ r = sq c z k
  | [], r, _, ⟨_, h1, h2⟩ => by
    have : actR c [].reverse r = r := rfl
    rw [this] at h2; omega
  | i :: z, r, hz, ⟨h0, h1, h2⟩ => by
    obtain ⟨hi, hz'⟩ := letters_cons.1 hz
    rw [List.reverse_cons, actR_append] at h2
    have h2' : sgnR (actR c z.reverse (mirL c i r)) = -1 := h2
    obtain ⟨j, rfl⟩ : ∃ j : Nat, i = j := ⟨i.toNat, by omega⟩
    rcases (h0.mir hi).sign hc with h | h
    · obtain ⟨k, hk, he⟩ := inv_seq hc z hz' ⟨h0.mir hi, h, h2'⟩
      refine ⟨k + 1, by simp; omega, ?_⟩
      rw [sq_cons, ← he, mir2 hc hi h0.len]
    · refine ⟨0, by simp, ?_⟩
      have := only_sim hc h0 (by omega) h1 h
      rw [this]
      unfold sq
      simp
      rfl
theorem seq_inv {c : List (List Int)} (hc : CartanP c) {z : List Int} (hz : Red c z) (hl : z.length ≤ 31) {k : Nat} (hk : k < z.length) : InvP c z (sq c z k) := by
  have hlet := letters_getD.1 hz.1 k hk
  obtain ⟨i, hi⟩ : ∃ i : Nat, z.getD k 0 = i := ⟨(z.getD k 0).toNat, by omega⟩
  have hin : i < c.length := by omega
  have hs : z = z.take k ++ (i : Int) :: z.drop (k + 1) := by
    rw [← hi, List.getD_eq_getElem?_getD, List.getElem?_eq_getElem hk, Option.getD_some, ← List.drop_eq_getElem_cons hk, List.take_append_drop]
  have ht : letters c.length (z.take k) := letters_take hz.1 k
  have hd : letters c.length (z.drop (k + 1)) := letters_drop hz.1 (k + 1)
  have hlen := congrArg List.length hs
  simp only [List.length_append, List.length_cons] at hlen
  have e0 : sq c z k = actR c (z.take k) (simL c.length i) := by unfold sq; rw [hi]; simp
  rw [e0]
  refine ⟨⟨_, i, ht, hin, rfl⟩, root_pos hc ht hin ?_, ?_⟩
  · have h1 : Red c (z.take k ++ [(i : Int)]) := by
      have : Red c ((z.take k ++ [(i : Int)]) ++ z.drop (k + 1)) := by rw [List.append_assoc]; simpa using hs ▸ hz
      exact this.head hc (by simp only [List.length_append, List.length_cons, List.length_nil]; omega)
    have h2 := h1.rev hc (by simp only [List.length_append, List.length_cons, List.length_nil]; omega)
    rw [List.reverse_append] at h2
    have := Red.pos hc (i := (i : Int)) (b := (z.take k).reverse) h2
    simpa using this
  · have e1 : z.reverse = ((z.drop (k + 1)).reverse ++ [(i : Int)]) ++ (z.take k).reverse := by
      conv => lhs; rw [hs]
      simp
    rw [e1, actR_append, actR_rev hc _ ht (simL_len _ _), actR_append]
    have e2 : actR c [(i : Int)] (simL c.length i) = negL (simL c.length i) := mir_sim hc hin
    rw [e2, actR_neg, sgn_neg]
    have h3 : Red c ((i : Int) :: z.drop (k + 1)) := by
      have : Red c (z.take k ++ ((i : Int) :: z.drop (k + 1))) := hs ▸ hz
      exact this.tail hc (by simp only [List.length_cons]; omega)
    have h4 := h3.pos hc
    have := root_pos hc (letters_reverse hd) hin (by rw [List.reverse_reverse]; simpa using h4)
    omega
theorem inv_same {c : List (List Int)} (hc : CartanP c) {a b : List Int} (ha : letters c.length a) (hb : letters c.length b) (h : imageL c a = imageL c b) {r : List Int} (k : InvP c a r) : InvP c b r := by
  refine ⟨k.1, k.2.1, ?_⟩
  rw [← actR_same hc (letters_reverse ha) (letters_reverse hb) (rev_same hc ha hb h (ones_length _)) k.1.len]
  exact k.2.2
end Go.Proofs.YtojcdgdbffmlpaaGreat
namespace Go.Proofs.YtojcdgdbffmlpaaGreat
open Go Go.Aw Go.Cox
theorem fewL_iff {R : List Int → Prop} (h : fewB R = true) (z : List Int) : z ∈ fewL R ↔ R z := by
  have h : FewP R := by simpa [fewB] using h
  unfold fewL
  rw [dif_pos h, (srt_spec _).2]
  exact h.choose_spec.2.1 z
theorem preX_iff {c : List (List Int)} {w : List Int} (h : preB c w = true) (z : List Int) : z ∈ preX c w ↔ Pre c (redL c w) z := by
  unfold preB at h
  cases hw : wordB c w with
  | false => rw [hw] at h; cases h
  | true => rw [hw] at h; unfold preX; rw [hw, if_pos rfl]; exact fewL_iff (by simpa using h) z
theorem preX_word {c : List (List Int)} {w z : List Int} (h : z ∈ preX c w) : WordP c z ∧ Nf c z := by
  obtain ⟨hw, hp⟩ := preX_pre h
  have hn := hp.nf (word_nf hw).1
  exact ⟨⟨(wordB_iff.1 hw).1, preX_rows c w z h, hn.1⟩, hn⟩
theorem wkB_red {c : List (List Int)} {l v : List Int} (hv : wordB c v = true) : wkB c l (redL c v) = wkB c l v := by
  obtain ⟨hx, hx15⟩ := word_nf hv
  obtain ⟨hc, h2, h3⟩ := wordB_iff.1 hv
  have hr : wordB c (redL c v) = true := wordB_iff.2 ⟨hc, hx15, hx.1⟩
  unfold wkB
  rw [hv, hr, hx.2.1]
  cases hl : wordB c l with
  | false => rfl
  | true =>
    obtain ⟨_, _, k3⟩ := wordB_iff.1 hl
    rw [weak_same hc k3 k3 rfl (red_spec hc h3 (by omega)).2.2.2.1]
theorem wk_pre {c : List (List Int)} {l v : List Int} (hv : wordB c v = true) (hl : WordP c l) (hn : Nf c l) : wkB c l v = true ↔ Pre c (redL c v) l := by
  obtain ⟨hx, hx15⟩ := word_nf hv
  rw [← wkB_red hv]
  exact wkB_pre hl.1 hx hx15 hn hl.2.1
def MeetP (c : List (List Int)) (u v b : List Int) : Prop := b ∈ preX c u ∧ wkB c b v = true ∧ ∀ z ∈ preX c u, wkB c z v = true → z.length ≤ b.length
theorem Pre.same {c : List (List Int)} {x z : List Int} (hx : Nf c x) (h : Pre c x z) (hl : z.length = x.length) : z = x := by
  obtain ⟨_, h2, v, _, h4, h5⟩ := h
  have : v = [] := List.eq_nil_of_length_eq_zero (by omega)
  subst this
  rw [List.append_nil] at h4
  rw [← h2, red_eq h4, hx.2.1]
theorem MeetP.uniq {c : List (List Int)} {u v a b : List Int} (hv : wordB c v = true) (hu : preB c u = true) (ha : MeetP c u v a) (hb : MeetP c u v b) : a = b := by
  obtain ⟨a1, a2, a3⟩ := ha
  obtain ⟨b1, b2, b3⟩ := hb
  obtain ⟨wa, na⟩ := preX_word a1
  obtain ⟨wb, nb⟩ := preX_word b1
  have hc := wa.1
  have hwu := (preX_pre a1).1
  have h := meet_top hc (word_nf hwu).1 (word_nf hv).1 ((preX_iff hu a).1 a1) ((wk_pre hv wa na).1 a2) ((preX_iff hu b).1 b1) ((wk_pre hv wb nb).1 b2) (fun z h1 h2 => by
    have h3 := (preX_iff hu z).2 h1
    obtain ⟨wz, nz⟩ := preX_word h3
    exact a3 z h3 ((wk_pre hv wz nz).2 h2))
  have e : a.length = b.length := Nat.le_antisymm (b3 a a1 a2) (a3 b b1 b2)
  exact (h.same na e.symm).symm
theorem meet_nil {c : List (List Int)} {u v : List Int} (hv : wordB c v = true) (hu : preB c u = true) : [] ∈ preX c u ∧ wkB c [] v = true := by
  have hc := (wordB_iff.1 hv).1
  have hwu : wordB c u = true := by
    unfold preB at hu
    cases hw : wordB c u with
    | false => rw [hw] at hu; cases hu
    | true => rfl
  have h1 : [] ∈ preX c u := (preX_iff hu []).2 (Pre.nil hc (word_nf hwu).1)
  obtain ⟨w0, n0⟩ := preX_word h1
  exact ⟨h1, (wk_pre hv w0 n0).2 (Pre.nil hc (word_nf hv).1)⟩
noncomputable def mtB (c : List (List Int)) (u v : List Int) : Bool := wordB c v && preB c u
open Classical in
noncomputable def mtX (c : List (List Int)) (u v : List Int) : List Int := if h : mtB c u v = true ∧ ∃ b, MeetP c u v b then h.2.choose else []
theorem mtB_iff {c : List (List Int)} {u v : List Int} : mtB c u v = true ↔ wordB c v = true ∧ preB c u = true := by simp [mtB]
theorem mtX_on {c : List (List Int)} {u v b : List Int} (hv : wordB c v = true) (hu : preB c u = true) (h : MeetP c u v b) : mtX c u v = b := by
  have h2 : mtB c u v = true ∧ ∃ b, MeetP c u v b := ⟨mtB_iff.2 ⟨hv, hu⟩, b, h⟩
  unfold mtX
  rw [dif_pos h2]
  exact MeetP.uniq hv hu h2.2.choose_spec h
theorem mtX_off {c : List (List Int)} {u v : List Int} (h : mtB c u v = false) : mtX c u v = [] := by
  unfold mtX
  rw [dif_neg (by rintro ⟨h1, _⟩; rw [h] at h1; cases h1)]
theorem mtX_word {c : List (List Int)} {u v : List Int} : (mtX c u v).length ≤ 15 ∧ (mtB c u v = true → letters c.length (mtX c u v)) := by
  unfold mtX
  split
  · rename_i h
    obtain ⟨h1, _⟩ := h.2.choose_spec
    exact ⟨preX_rows c u _ h1, fun _ => (preX_word h1).1.2.2⟩
  · exact ⟨by simp, fun _ => letters_nil _⟩
theorem strict_len {L : List (List Int)} (h : StrictW L) : ∀ {i j : Nat}, i ≤ j → j < L.length → (L.getD i []).length ≤ (L.getD j []).length := by
  intro i j hij hj
  by_cases e : i = j
  · rw [e]; exact Nat.le_refl _
  have hi : i < L.length := by omega
  have := List.pairwise_iff_getElem.1 h i j hi hj (by omega)
  rw [getD_eq hi, getD_eq hj]
  refine Classical.byContradiction fun hn => ?_
  have h2 := cmp_long (a := L[j]) (b := L[i]) (by omega)
  omega
theorem preX_strict (c : List (List Int)) (w : List Int) : StrictW (preX c w) := by
  unfold preX
  split
  · unfold fewL
    split
    · exact (srt_spec _).1
    · exact StrictW.nil
  · exact StrictW.nil
theorem c_impl_MeetWeak (c : List (List Int)) (u v : List Int) (hcl : c.length ≤ 1048576) :
    FunA B 38 [.sl false (.row false) c, .sl false .int u, .sl false .int v] (fun rs o => rs = [.own 0 0, .bool (mtB c u v)] ∧ o = [.arr .int (mtX c u v) 0 true]) := by
  refine (FunA.unlr (by rfl) (post := fun xs rest => xs = mtX c u v ∧ rest = [.bool (mtB c u v)]) ?_).mono fun rs o ⟨xs, rest, ⟨h1, h2⟩, h3, h4⟩ => ⟨by rw [h3, h2], by rw [h4, h1]⟩
  refine FunA.walk B_ok (fn := Tryz.f38) (fun vs w => Tryz.call38 vs w) Tryz.func38 rfl (by rw [Tryz.ntmps38]; simp) (fun C hC hP hT hΓ hbt hfn hpin hfin => ?_); have hX := BX; rw [← hΓ, ← hbt.1, ← hbt.2] at hX; rw [Tryz.ntmps38]; simp only [AW7, simprocAttr, hX]
  refine Run.R ?_
  refine Run.nq ?_; refine Run.regionW hC (fun K hK => ?_); refine wW ?_
  refine FunA.cW hP hT (c_impl_IsWord c v) ?_
  rintro rs o ⟨rfl, rfl⟩
  refine wW ?_
  refine wE ?_; clear hK K
  refine Run.nq ?_; refine Run.cW ?_ ?_
  · intro h
    have h : wordB c v = false := by simpa using h
    have e1 : mtB c u v = false := by simp [mtB, h]
    refine Run.R ?_
    refine Run.reK hpin [6, 7] [0] (by decide) (by simp) ?_; simp only [AR, AW7, simprocAttr]
    refine Run.tolr 0 [6, 7] rfl (fun q hq => ?_); simp only [AL, frV_cons, frV_nil, AW7, simprocAttr]
    refine Run.reK hpin [6, 7] [] (by decide) (by simp) ?_; simp only [AR, AW7, simprocAttr]
    refine Run.rW [6, 7] (hfin _ _ rfl rfl ?_)
    exact ⟨q, [], _, ⟨(mtX_off e1).symm, by rw [e1]⟩, rfl, rfl, rfl⟩
  intro h
  have hv : wordB c v = true := by simpa using h
  refine Run.nq ?_; refine Run.regionW hC (fun K hK => ?_); refine wW ?_
  refine FunA.cW hP hT (c_impl_PrefixesOfR c u hcl) ?_
  rintro rs o ⟨ys, g, nn, rest, ⟨hys, rfl, rfl⟩, hnd, _, rfl, rfl⟩
  refine wW ?_
  refine wE ?_; clear hK K
  refine Run.R ?_
  refine Run.nq ?_; refine Run.cW ?_ ?_
  · intro h
    have h : preB c u = false := by simpa using h
    have e1 : mtB c u v = false := by simp [mtB, h]
    refine Run.R ?_
    refine Run.reK hpin [6, 7] [1] (by decide) (by simp) ?_; simp only [AR, AW7, simprocAttr]
    refine Run.tolr 0 [6, 7] rfl (fun q hq => ?_); simp only [AL, frV_cons, frV_nil, AW7, simprocAttr]
    refine Run.reK hpin [6, 7] [] (by decide) (by simp) ?_; simp only [AR, AW7, simprocAttr]
    refine Run.rW [6, 7] (hfin _ _ rfl rfl ?_)
    exact ⟨q, [], _, ⟨(mtX_off e1).symm, by rw [e1]⟩, rfl, rfl, rfl⟩
  intro h
  have hu : preB c u = true := by simpa using h
  have hmB := mtB_iff.2 ⟨hv, hu⟩
  have hlen := preX_len c u
  rw [← hys, rwl] at hlen
  refine Run.RW ?_
  refine Run.reK hpin [0, 2, 8, 10] [0] (by decide) (by simp) ?_; simp only [AR, AW7, simprocAttr]
  refine Run.loopI (X := Nat) (fun k => ⟨44, [(0, true, .v (.sl false (.row false) (c))), (2, true, .v (.sl false .int (v))), (8, true, .v (.own 0 0)), (10, true, .v (.int .i64 (((k : Int) - 1))))], [.arr .lrow (ys) 0 true]⟩) (fun k => k ≤ ys.length ∧ ∀ j, k ≤ j → j < ys.length → wkB c ((rw2 ys).getD j []) v = false) (fun k => k) (ys.length) (⟨Nat.le_refl _, fun j h1 h2 => by omega⟩) ?_ ?_
  · exact Le.sub (by first | rfl | simp) (by simp only [AW7, simprocAttr, hX]; try simp <;> try (first | rfl | exact ⟨rfl, rfl⟩ | exact ⟨rfl, rfl, rfl⟩))
  rintro k ⟨hk, hno⟩ ih
  try simp only []
  refine Run.R ?_
  refine Run.nq ?_; refine Run.cW ?_ ?_
  rotate_left
  · intro h2
    exfalso
    have h2 : k = 0 := by rw [decide_eq_false_iff_not] at h2; omega
    obtain ⟨n1, n2⟩ := meet_nil hv hu
    rw [← hys] at n1
    obtain ⟨j, hj, e⟩ := mem_rw2_iff.1 n1
    have := hno j (by omega) hj
    rw [← rwg, e, n2] at this
    cases this
  intro h2
  have h2 : 0 < k := by rw [decide_eq_true_eq] at h2; omega
  obtain ⟨m, rfl⟩ : ∃ m, k = m + 1 := ⟨k - 1, by omega⟩
  have hm : m < ys.length := by omega
  have hin : (rw2 ys).getD m [] ∈ preX c u := by rw [← hys, ← rwg]; exact mem_rw2 hm
  obtain ⟨wz, nz⟩ := preX_word hin
  have hgz := rwg ys m
  have ek : ((m + 1 : Nat) : Int) - 1 = (m : Int) := by omega
  rw [ek]
  generalize hgx : (ys.getD m (0, [])).2 = z at *
  refine Run.nq ?_; refine Run.regionW hC (fun K hK => ?_); refine wW ?_
  simp only [Int.toNat_natCast, hgx]
  refine FunA.cW hP hT (c_impl_weakBelow c z v (by rw [hgz]; exact wz) (wordB_iff.1 hv)) ?_
  rintro rs o ⟨rfl, rfl⟩
  refine wW ?_
  refine wE ?_; clear hK K
  refine Run.nq ?_; refine Run.cW ?_ ?_
  · intro h3
    have h3 : wkB c z v = true := h3
    have hM : MeetP c u v z := by
      refine ⟨by rw [hgz]; exact hin, h3, fun t ht hwt => ?_⟩
      rw [← hys] at ht
      obtain ⟨j, hj, e⟩ := mem_rw2_iff.1 ht
      have hjm : j ≤ m := by
        refine Classical.byContradiction fun hn => ?_
        have := hno j (by omega) hj
        rw [← rwg, e, hwt] at this
        cases this
      have hst := preX_strict c u
      rw [← hys] at hst
      have := strict_len hst hjm (by rw [rwl]; exact hm)
      rw [← rwg ys j, e, ← hgz] at this
      exact this
    refine Run.R ?_
    simp only [Int.toNat_natCast, hgx]
    refine Run.reK hpin [6, 7] [] (by decide) (by simp) ?_; simp only [AR, AW7, simprocAttr]
    refine Run.rW [6, 7] (hfin _ _ rfl rfl ?_)
    exact ⟨_, z, _, ⟨(mtX_on hv hu hM).symm, by rw [hmB]⟩, rfl, rfl, rfl⟩
  intro h3
  have h3 : wkB c z v = false := h3
  refine Run.reK hpin [0, 2, 8, 10] [0] (by decide) (by simp) ?_; simp only [AR, AW7, simprocAttr]
  refine Run.RW ?_
  refine Run.le ?_ (ih (m) (⟨by omega, fun j h4 h5 => by
      by_cases e : j = m
      · rw [e, ← hgz]; exact h3
      · exact hno j (by omega) h5⟩) (by (try simp only [List.length_append, List.length_cons, List.length_nil]); omega))
  exact Le.sub (by rfl) (by simp only [AW7, simprocAttr]; try simp)
theorem c_spec_MeetWeak (c : List (List Int)) (u v : List Int) (hcl : c.length ≤ 1048576) :
    FunA B 39 [.sl false (.row false) c, .sl false .int u, .sl false .int v] (fun rs o => rs = [.own 0 0, .bool (mtB c u v)] ∧ o = [.arr .int (mtX c u v) 0 true]) := by
  refine FunA.walk B_ok (fn := Tryz.f39) (fun vs w => Tryz.call39 vs w) Tryz.func39 rfl (by rw [Tryz.ntmps39]; simp) (fun C hC hP hT hΓ hbt hfn hpin hfin => ?_); have hX := BX; rw [← hΓ, ← hbt.1, ← hbt.2] at hX; rw [Tryz.ntmps39]; simp only [AW7, simprocAttr, hX]
  refine Run.R ?_
  refine Run.nq ?_; refine Run.regionW hC (fun K hK => ?_); refine wW ?_
  refine FunA.cW hP hT (c_spec_PrefixesOfR c u hcl) ?_
  rintro rs o ⟨ys, g, nn, rest, ⟨hys, rfl, rfl⟩, hnd, _, rfl, rfl⟩
  refine wW ?_
  refine wE ?_; clear hK K
  refine Run.nq ?_; refine Run.regionW hC (fun K hK => ?_); refine wW ?_
  refine .inl (FunA.callG hP hT (c_spec_IsWord c v hcl) (fun _ => rfl) (fun _ => by simp only [AW7, simprocAttr]) ?_)
  refine wW ?_
  refine wE ?_; clear hK K
  refine Run.nq ?_; refine Run.cW ?_ ?_
  · intro h
    have e1 : mtB c u v = false := by
      revert h
      cases hp : preB c u <;> cases hw : wordB c v <;> simp [mtB, hp, hw]
    refine Run.R ?_
    refine Run.reK hpin [6, 7] [1] (by decide) (by simp) ?_; simp only [AR, AW7, simprocAttr]
    refine Run.rW [6, 7] (hfin _ _ rfl rfl ?_)
    rw [mtX_off e1, e1]
    exact ⟨rfl, rfl⟩
  intro h
  have hu : preB c u = true := by revert h; cases hp : preB c u <;> simp
  have hv : wordB c v = true := by revert h; cases hw : wordB c v <;> simp [hu]
  have hmB := mtB_iff.2 ⟨hv, hu⟩
  have hlen := preX_len c u
  rw [← hys, rwl] at hlen
  obtain ⟨n1, n2⟩ := meet_nil hv hu
  refine Run.R ?_
  refine Run.reK hpin [0, 2, 8, 10] [0, 1] (by decide) (by simp) ?_; simp only [AR, AW7, simprocAttr]
  refine Run.tolr 1 [0, 2, 8, 10] rfl (fun q hq => ?_); simp only [AL, frV_cons, frV_nil, AW7, simprocAttr]
  refine Run.R ?_
  refine Run.reK hpin [0, 2, 8, 10, 11] [0] (by decide) (by simp) ?_; simp only [AR, AW7, simprocAttr]
  refine Run.loopI (X := Nat × Nat × List Int) (fun s => ⟨58, [(0, true, .v (.sl false (.row false) (c))), (2, true, .v (.sl false .int (v))), (8, true, .v (.own 0 0)), (10, true, .v (.lr s.2.1 s.2.2)), (11, true, .v (.int .i64 (s.1)))], [.arr .lrow (ys) 0 true]⟩) (fun s => s.1 ≤ ys.length ∧ s.2.2 ∈ preX c u ∧ wkB c s.2.2 v = true ∧ ∀ j, j < s.1 → wkB c ((rw2 ys).getD j []) v = true → ((rw2 ys).getD j []).length ≤ s.2.2.length) (fun s => ys.length - s.1) ((0, q, [])) (⟨Nat.zero_le _, n1, n2, fun j h1 => by omega⟩) ?_ ?_
  · exact Le.sub (by first | rfl | simp) (by simp only [AW7, simprocAttr, hX]; try simp <;> try (first | rfl | exact ⟨rfl, rfl⟩ | exact ⟨rfl, rfl, rfl⟩))
  rintro ⟨k, p, b⟩ ⟨hk, hb1, hb2, hb3⟩ ih
  try simp only []
  simp only [] at hk hb1 hb2 hb3
  have hbl := preX_rows c u _ hb1
  refine Run.R ?_
  refine Run.nq ?_; refine Run.cW ?_ ?_
  rotate_left
  · intro h2
    have h2 : k = ys.length := by rw [decide_eq_false_iff_not] at h2; omega
    have hM : MeetP c u v b := by
      refine ⟨hb1, hb2, fun t ht hwt => ?_⟩
      rw [← hys] at ht
      obtain ⟨j, hj, e⟩ := mem_rw2_iff.1 ht
      rw [rwg] at e
      have := hb3 j (by omega) (by rw [e]; exact hwt)
      rw [e] at this
      exact this
    refine Run.exit rfl ?_; refine Run.nq ?_
    refine Run.R ?_
    refine Run.reK hpin [6, 7] [1] (by decide) (by simp) ?_; simp only [AR, AW7, simprocAttr]
    refine Run.rW [6, 7] (hfin _ _ rfl rfl ?_)
    rw [mtX_on hv hu hM, hmB]
    exact ⟨rfl, rfl⟩
  intro h2
  have h2 : k < ys.length := by rw [decide_eq_true_eq] at h2; omega
  have hin : (rw2 ys).getD k [] ∈ preX c u := by rw [← hys, ← rwg]; exact mem_rw2 h2
  obtain ⟨wz, nz⟩ := preX_word hin
  have hgz := rwg ys k
  generalize hgx : (ys.getD k (0, [])).2 = z at *
  refine Run.nq ?_; refine Run.regionW hC (fun K hK => ?_); refine wW ?_
  simp only [Int.toNat_natCast, hgx]
  refine .inl (FunA.callG hP hT (c_spec_IsWeakBelow c z v hcl) (fun _ => rfl) (fun _ => by simp only [AW7, simprocAttr]) ?_)
  refine wW ?_
  refine wE ?_; clear hK K
  refine Run.nq ?_; refine Run.cW ?_ ?_
  · intro h3
    have h3 : b.length < z.length ∧ wkB c z v = true := by
      by_cases e : (b.length : Int) < z.length
      · rw [decide_eq_true e] at h3
        exact ⟨by omega, h3⟩
      · rw [decide_eq_false e] at h3; cases h3
    refine Run.R ?_
    simp only [Int.toNat_natCast, hgx]
    refine Run.reK hpin [0, 2, 8, 10, 11] [0] (by decide) (by simp) ?_; simp only [AR, AW7, simprocAttr]
    refine Run.RW ?_
    refine Run.le ?_ (ih ((k + 1, (ys.getD k (0, [])).1, z)) (⟨h2, by rw [hgz]; exact hin, h3.2, fun j h4 h5 => by
      simp only [] at h4 ⊢
      by_cases e : j = k
      · rw [e, hgz]; exact Nat.le_refl _
      · have := hb3 j (by omega) h5; omega⟩) (by (try simp only [List.length_append, List.length_cons, List.length_nil]); omega))
    exact Le.sub (by rfl) (by simp only [AW7, simprocAttr]; try simp)
  intro h3
  refine Run.reK hpin [0, 2, 8, 10, 11] [0] (by decide) (by simp) ?_; simp only [AR, AW7, simprocAttr]
  refine Run.RW ?_
  refine Run.le ?_ (ih ((k + 1, p, b)) (⟨h2, hb1, hb2, fun j h4 h5 => by
      simp only [] at h4 ⊢
      by_cases e : j = k
      · rw [e, ← hgz] at h5 ⊢
        by_cases e2 : (b.length : Int) < z.length
        · rw [decide_eq_true e2, h5] at h3; cases h3
        · omega
      · exact hb3 j (by omega) h5⟩) (by (try simp only [List.length_append, List.length_cons, List.length_nil]); omega))
  exact Le.sub (by rfl) (by simp only [AW7, simprocAttr]; try simp)
end Go.Proofs.YtojcdgdbffmlpaaGreat
namespace Go.Proofs.YtojcdgdbffmlpaaGreat
open Go Go.Aw Go.Cox
theorem weak_of_inv {c : List (List Int)} (hc : CartanP c) : ∀ (x : List Int) {y : List Int}, Red c x → Nf c y → x.length ≤ 30 → (∀ r, InvP c x r → InvP c y r) → ∃ t, letters c.length t ∧ imageL c (x ++ t) = imageL c y ∧ x.length + t.length = y.length
  | [], y, _, hy, _, _ => ⟨y, hy.1, rfl, by simp⟩
  | i :: x, y, hx, hy, hl, H => by
    obtain ⟨hi, hxl⟩ := letters_cons.1 hx.1
    have hx' : Red c x := Red.tail hc (a := [i]) (by simp at hl; omega) hx
    obtain ⟨j, rfl⟩ : ∃ j : Nat, i = j := ⟨i.toNat, by omega⟩
    have hj : j < c.length := by omega
    have e0 : sq c ((j : Int) :: x) 0 = simL c.length j := by unfold sq; simp; rfl
    have h0 := H _ (e0 ▸ seq_inv hc hx (by omega) (k := 0) (by simp))
    have hfy : (imageL c y).getD j 0 < 0 := by
      have := (root_iff hc (letters_reverse hy.1) hj).1 h0.2.2
      rwa [List.reverse_reverse] at this
    obtain ⟨f1, f2, f3⟩ := front hc hy hj hfy
    have hly : letters c.length ((j : Int) :: y) := letters_cons.2 ⟨hi, hy.1⟩
    obtain ⟨t, t1, t2, t3⟩ := weak_of_inv hc x hx' f1 (by simp at hl; omega) (fun r hr => by
      obtain ⟨r1, r2, r3⟩ := hr
      have hs : sgnR (mirL c j r) = 1 := by
        rcases (r1.mir hi).sign hc with h | h
        · exact h
        · exfalso
          rw [only_sim hc r1 hj r2 h] at r3
          have := (root_iff hc (letters_reverse hxl) hj).1 r3
          rw [List.reverse_reverse] at this
          have h5 := hx.pos hc
          simp only [Int.toNat_natCast] at h5
          omega
      have hI : InvP c ((j : Int) :: x) (mirL c j r) := by
        refine ⟨r1.mir hi, hs, ?_⟩
        rw [List.reverse_cons, actR_append]
        show sgnR (actR c x.reverse (mirL c j (mirL c j r))) = -1
        rw [mir2 hc hi r1.len]; exact r3
      have hy2 := H _ hI
      refine inv_same hc hly f1.1 (by rw [f3, image_cons]) ⟨r1, r2, ?_⟩
      rw [List.reverse_cons, actR_append]
      exact hy2.2.2)
    refine ⟨t, t1, ?_, by simp; omega⟩
    show reflL c j (imageL c (x ++ t)) = imageL c y
    rw [t2, f3, refl2 hc hi (imageL_length _ _)]
theorem sq_app (c : List (List Int)) (x t : List Int) {k : Nat} (hk : k < x.length) : sq c (x ++ t) k = sq c x k := by
  unfold sq
  rw [List.take_append_of_le_length (by omega), List.getD_eq_getElem?_getD, List.getElem?_append_left hk, ← List.getD_eq_getElem?_getD]
theorem inv_of_weak {c : List (List Int)} (hc : CartanP c) {x y t : List Int} (hx : letters c.length x) (hy : Nf c y) (ht : letters c.length t) (he : imageL c (x ++ t) = imageL c y) (hl : x.length + t.length = y.length) {r : List Int} (h : InvP c x r) : InvP c y r := by
  have hxt := letters_append.2 ⟨hx, ht⟩
  have hR : Red c (x ++ t) := Red.of hc hxt (hy.red hc) he (by simp; omega)
  obtain ⟨k, hk, rfl⟩ := inv_seq hc x hx h
  rw [← sq_app c x t hk]
  exact inv_same hc hxt hy.1 he (seq_inv hc hR (by have := hy.2.2; simp; omega) (by simp; omega))
theorem wk_inv {c : List (List Int)} {u v : List Int} (hu : wordB c u = true) (hv : wordB c v = true) : wkB c u v = true ↔ ∀ r, InvP c u r → InvP c v r := by
  obtain ⟨hc, u1, u2⟩ := wordB_iff.1 hu
  obtain ⟨_, v1, v2⟩ := wordB_iff.1 hv
  obtain ⟨hx, hx15⟩ := word_nf hu
  obtain ⟨hy, hy15⟩ := word_nf hv
  obtain ⟨a1, a2, a3, a4, a5⟩ := red_spec hc u2 (by omega)
  obtain ⟨b1, b2, b3, b4, b5⟩ := red_spec hc v2 (by omega)
  have hxw : wordB c (redL c u) = true := wordB_iff.2 ⟨hc, hx15, hx.1⟩
  have hyw : wordB c (redL c v) = true := wordB_iff.2 ⟨hc, hy15, hy.1⟩
  have e : wkB c u v = wkB c (redL c u) (redL c v) := by
    unfold wkB
    rw [hu, hv, hxw, hyw, weak_same hc u2 a1 a4.symm b4.symm, hx.2.1, hy.2.1]
  rw [e, wkB_pre hc hy hy15 hx hx15]
  have ei : ∀ {a b : List Int}, letters c.length a → letters c.length b → imageL c a = imageL c b → ∀ r, InvP c a r ↔ InvP c b r := fun ha hb h r => ⟨inv_same hc ha hb h, inv_same hc hb ha h.symm⟩
  constructor
  · rintro ⟨_, _, t, t1, t2, t3⟩ r hr
    exact (ei b1 v2 b4 r).1 (inv_of_weak hc hx.1 hy t1 t2 t3 ((ei u2 a1 a4.symm r).1 hr))
  · intro H
    obtain ⟨t, t1, t2, t3⟩ := weak_of_inv hc (redL c u) (hx.red hc) hy (by omega) (fun r hr => (ei v2 b1 b4.symm r).1 (H r ((ei a1 u2 a4 r).1 hr)))
    exact ⟨hx.1, hx.2.1, t, t1, t2, t3⟩
def comN (c : List (List Int)) (u v : List Int) : Nat := ((seqL c (redL c u)).filter fun r => decide (r ∈ seqL c (redL c v))).length
theorem seq_mem {c : List (List Int)} {w r : List Int} (hw : wordB c w = true) : r ∈ seqL c (redL c w) ↔ InvP c w r := by
  obtain ⟨hc, u1, u2⟩ := wordB_iff.1 hw
  obtain ⟨hx, hx15⟩ := word_nf hw
  obtain ⟨a1, a2, a3, a4, a5⟩ := red_spec hc u2 (by omega)
  unfold seqL
  rw [List.mem_map]
  constructor
  · rintro ⟨k, hk, rfl⟩
    exact inv_same hc a1 u2 a4 (seq_inv hc (hx.red hc) (by omega) (by simpa using hk))
  · intro h
    obtain ⟨k, hk, rfl⟩ := inv_seq hc _ a1 (inv_same hc u2 a1 a4.symm h)
    exact ⟨k, by simpa using hk, rfl⟩
theorem com_weak {c : List (List Int)} {u v : List Int} (hu : wordB c u = true) (hv : wordB c v = true) : wkB c u v = true ↔ comN c u v = (redL c u).length := by
  rw [wk_inv hu hv]
  have e : (redL c u).length = (seqL c (redL c u)).length := by simp [seqL]
  rw [e]
  unfold comN
  rw [List.length_filter_eq_length_iff]
  constructor
  · intro H r hr
    simp only [decide_eq_true_eq]
    exact (seq_mem hv).2 (H r ((seq_mem hu).1 hr))
  · intro H r hr
    have := H r ((seq_mem hu).2 hr)
    simp only [decide_eq_true_eq] at this
    exact (seq_mem hv).1 this
end Go.Proofs.YtojcdgdbffmlpaaGreat
